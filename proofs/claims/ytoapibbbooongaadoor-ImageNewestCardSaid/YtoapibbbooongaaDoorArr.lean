/- Whole arrays and structs of many cells: built, laid, stored. -/
import Derived.Test.YtoapibbbooongaaDoorLib
import Derived.Deep.MidRow
import Derived.Deep.WholeRow
import Derived.StillTailTactics
import Derived.Great.BuildSlice
import Derived.Deep.AppendLies
import Derived.Deep.RegionHeld3
namespace Go.Quad
open Go.RowKit

theorem wpListQ_build {P : Program} {w : World} {ops : Array Oper} {rest : List Oper} {o : Oper} {ac : Act} {Q : Exit → Act → World → Prop}
    (t : TypeId) (parts : Array (Nat × Operand)) (ho : o.op = .build t parts) (hw : Region.wanted o (yielded ops ac.tmps) = true) (cells : Array Value)
    (h : P.built t (parts.map fun (i, x) => (i, ac.eval x)).toList = some cells) (hK : wpList P ops Q rest (ac.put o.dst (.agg cells)) w) : wpList P ops Q (o :: rest) ac w := by
  refine wpList_by (fun v w' => v = .agg cells ∧ w' = w) hw ⟨_, _, ?_, rfl, rfl⟩ (by rintro v w' ⟨rfl, rfl⟩; exact hK)
  simp only [execOp, ho, Sem.run_bind, run_build w t _ cells h, Result.andThen_ok, Sem.run_pure]

theorem wpListQ_alloc {P : Program} {w : World} {ops : Array Oper} {rest : List Oper} {o : Oper} {ac : Act} {Q : Exit → Act → World → Prop}
    (t : TypeId) (ho : o.op = .alloc t) (hw : Region.wanted o (yielded ops ac.tmps) = true) (z : Array Value) (n : Nat) (h : (P.info? t).map (fun i => (i.zero, i.size)) = some (some (.agg z), n))
    (hK : wpList P ops Q rest (ac.put o.dst (.pointer (some ⟨w.heap.size, 0, none⟩))) (w.alloc (.cells z t))) : wpList P ops Q (o :: rest) ac w := by
  have hz := (zero_of_info (P := P) h).1
  refine wpList_by (fun v w' => v = .pointer (some ⟨w.heap.size, 0, none⟩) ∧ w' = w.alloc (.cells z t)) hw ⟨_, _, ?_, rfl, rfl⟩ (by rintro v w' ⟨rfl, rfl⟩; exact hK)
  simp only [execOp, ho, Instr.alloc, Sem.run_bind, hz, Result.andThen_ok, Sem.run_pure]
  simp [go_sem]

theorem wpListQ_store_new {P : Program} {w : World} {ops : Array Oper} {rest : List Oper} {o : Oper} {ac : Act} {Q : Exit → Act → World → Prop} (hgd : o.guard = none)
    (t : TypeId) (x y : Operand) (ho : o.op = .store t x y) (c c' : Array Value) (hx : ac.eval x = .pointer (some ⟨w.heap.size, 0, none⟩)) (hy : ac.eval y = .agg c')
    (hi : (P.info? t).map (·.size) = some c'.size) (hs : c.size = c'.size) (h1 : c'.all (·.oneCell') = true)
    (hK : wpList P ops Q rest (ac.put o.dst undef) (w.alloc (.cells c' t))) : wpList P ops Q (o :: rest) ac (w.alloc (.cells c t)) :=
  wpList_plain hgd fun _ hK' => by
    unfold Oper.wp execOp
    simp only [ho, hx, hy, Sem.run_bind, run_storeAt_new w t c c' hi hs h1, Result.andThen_ok, Sem.run_pure]
    exact hK' _ _ hK

theorem wpStillQ_load {P : Program} {w : World} {ops : Array Oper} {rest : List Oper} {o : Oper} {ac : Act} {Q : Act → Prop} (hw : Region.wanted o (yielded ops ac.tmps) = true)
    (t : TypeId) (x : Operand) (ho : o.op = .load t x) (b k : Nat) (hx : ac.eval x = .pointer (some ⟨b, k, none⟩)) (cs : List Value)
    (hr : (Instr.loadAt t (.pointer (some ⟨b, k, none⟩))).run P w = .ok (.agg cs.toArray) w)
    (h : wpStill P ops w Q rest (ac.put o.dst (.agg cs.toArray))) : wpStill P ops w Q (o :: rest) ac := by
  unfold wpStill
  rw [if_pos hw]
  unfold Oper.still execOp
  simp only [ho, hx, Sem.run_bind, hr, Result.andThen_ok, Sem.run_pure]
  rw [Oper.stillUpon_value]
  exact h

theorem run_buildOne {P : Program} (w : World) (t e : TypeId) (c z : Array Value) (n : Nat) (hu : P.underlying t = some (.slice e)) (hi : (P.info? e).map (fun i => (i.zero, i.size)) = some (some (.agg z), n)) (hn : 0 < n ∧ n ≤ 2 ^ 24) (hc : c.size = n) :
    (Instr.buildSlice t 1 #[(0, .agg c)]).run P w = .ok (.slice (some ⟨w.heap.size, 0, none⟩) 1 1) (w.alloc (.cells c e)) := by
  cases hie : P.info? e with
  | none => simp [hie] at hi
  | some ie =>
    simp only [hie, Option.map_some, Option.some.injEq, Prod.mk.injEq] at hi
    refine run_buildSlice w t e 1 _ c ie (.agg z) hu hie hi.1 (by rw [hi.2]; omega) (by rw [hi.2]; omega) ?_
    have := Great.fill_whole hn.1 [.agg c] ((Array.range (1 * ie.size)).map ((Value.agg z).cells[· % (Value.agg z).cells.size]!)) (fun v hv => by simp at hv; subst hv; exact hc) (by simp [hi.2])
    rw [hi.2] at this ⊢
    refine Eq.trans ?_ (this.trans ?_)
    · rfl
    · simp [Value.cells]

theorem wpListQ_buildOne {P : Program} {w : World} {ops : Array Oper} {rest : List Oper} {o : Oper} {ac : Act} {Q : Exit → Act → World → Prop} (hgd : o.guard = none)
    (t e : TypeId) (x : Operand) (ho : o.op = .buildSlice t 1 #[(0, x)]) (c z : Array Value) (n : Nat) (hx : ac.eval x = .agg c) (hu : P.underlying t = some (.slice e))
    (hi : (P.info? e).map (fun i => (i.zero, i.size)) = some (some (.agg z), n)) (hn : 0 < n ∧ n ≤ 2 ^ 24) (hc : c.size = n)
    (hK : wpList P ops Q rest (ac.put o.dst (.slice (some ⟨w.heap.size, 0, none⟩) 1 1)) (w.alloc (.cells c e))) : wpList P ops Q (o :: rest) ac w :=
  wpList_plain hgd fun _ hK' => by
    unfold Oper.wp execOp
    simp only [ho, List.map_toArray, List.map_cons, List.map_nil, hx, Sem.run_bind, run_buildOne w t e c z n hu hi hn hc, Result.andThen_ok, Sem.run_pure]
    exact hK' _ _ hK

/-! ### A region that draws, by hand -/
section
variable {P : Program} {ops : Array Oper} {Q : Exit → Act → World → Prop} {S : World → Prop} {fuel : Nat} {listed : Array Bool} {a : Act} {w : World}

theorem opValue {i : Nat} {oi : Oper} {K : Act → World → Prop} {v : Value} {w' : World} (hi : ops[i]? = some oi) (hgd : oi.guard = none) (hx : (execOp a.eval oi).run P w = .ok (.value v) w') (h : K (a.put oi.dst v) w') : wpOp P ops Q i K a w := by
  unfold wpOp
  simp only [hi, Region.wanted, hgd, if_true, Oper.wp, hx, Oper.upon]
  exact .inl h
theorem opSkip {i : Nat} {oi : Oper} {K : Act → World → Prop} {w' : World} (hi : ops[i]? = some oi) (hgd : oi.guard = none) (hx : (execOp a.eval oi).run P w = .ok .skip w') (h : K (a.put oi.dst undef) w') : wpOp P ops Q i K a w := by
  unfold wpOp
  simp only [hi, Region.wanted, hgd, if_true, Oper.wp, hx, Oper.upon]
  exact .inl h

theorem exec_load {o : Oper} {t : TypeId} {x : Operand} {p u : Value} (ho : o.op = .load t x) (hx : a.eval x = p) (hr : (Instr.loadAt t p).run P w = .ok u w) : (execOp a.eval o).run P w = .ok (.value u) w := by
  unfold execOp
  simp only [ho, hx, Sem.run_bind, hr, Result.andThen_ok, Sem.run_pure]
theorem exec_build1 {o : Oper} {t : TypeId} {x : Operand} {p u : Value} {w' : World} (ho : o.op = .buildSlice t 1 #[(0, x)]) (hx : a.eval x = p) (hr : (Instr.buildSlice t 1 #[(0, p)]).run P w = .ok u w') : (execOp a.eval o).run P w = .ok (.value u) w' := by
  unfold execOp
  simp only [ho, List.map_toArray, List.map_cons, List.map_nil, hx, Sem.run_bind, hr, Result.andThen_ok, Sem.run_pure]
theorem exec_append {o : Oper} {t : TypeId} {s x : Operand} {p q u : Value} {w' : World} (ho : o.op = .call { callee := .builtin .append, args := #[s, x], argTypes := #[t, t] }) (hs : a.eval s = p) (hx : a.eval x = q)
    (hr : (Builtin.append_ #[t, t] o.type #[p, q]).run P w = .ok u w') : (execOp a.eval o).run P w = .ok (.value u) w' := by
  unfold execOp
  simp only [ho, resolve, invoke, builtin, Sem.run_bind, Sem.run_pure, Result.andThen_ok, List.map_toArray, List.map_cons, List.map_nil, hs, hx, hr]

theorem anyH_one {i : Nat} {oi : Oper} {v : Value} {w' : World} (hi : ops[i]? = some oi) (hgd : oi.guard = none) (hr : Region.ready .any ops listed = [i]) (hx : (execOp a.eval oi).run P w = .ok (.value v) w') (hS : S w')
    (h : wpAnyH P .any ops Q S fuel (listed.setIfInBounds i true) (a.put oi.dst v) w') : wpAnyH P .any ops Q S (fuel + 1) listed a w := by
  refine wpAnyH_all hr (by simp) fun j hj => ?_
  simp only [List.mem_singleton] at hj
  subst hj
  exact opValue hi hgd hx ⟨hS, h⟩
theorem anyH_skip {i : Nat} {oi : Oper} {w' : World} (hi : ops[i]? = some oi) (hgd : oi.guard = none) (hr : Region.ready .any ops listed = [i]) (hx : (execOp a.eval oi).run P w = .ok .skip w') (hS : S w')
    (h : wpAnyH P .any ops Q S fuel (listed.setIfInBounds i true) (a.put oi.dst undef) w') : wpAnyH P .any ops Q S (fuel + 1) listed a w := by
  refine wpAnyH_all hr (by simp) fun j hj => ?_
  simp only [List.mem_singleton] at hj
  subst hj
  exact opSkip hi hgd hx ⟨hS, h⟩
theorem anyH_take {i : Nat} {oi : Oper} {v : Value} (hi : ops[i]? = some oi) (hgd : oi.guard = none)
    (hs : Region.noSelect ops = true) (hf : Region.free .any ops listed i = true) (hr : (Region.ready .any ops listed).contains i = true)
    (hQ : ∀ c a w, Q (.panic c) (a.put oi.dst v) w → Q (.panic c) a w) (hx : ∀ w, S w → (execOp a.eval oi).run P w = .ok (.value v) w) (hS : S w)
    (h : wpAnyH P .any ops Q S fuel (listed.setIfInBounds i true) (a.put oi.dst v) w) : wpAnyH P .any ops Q S (fuel + 1) listed a w :=
  wpAnyH_take hi hs hf hr hQ (.inl ⟨by simp [Region.wanted, hgd], hx⟩) hS h
/-- two that come in either order -/
theorem anyH_two {i j : Nat} {oi oj : Oper} {v u : Value} {w' : World} (hi : ops[i]? = some oi) (hj : ops[j]? = some oj) (hgi : oi.guard = none) (hgj : oj.guard = none)
    (hr : Region.ready .any ops listed = [i, j]) (hri : Region.ready .any ops (listed.setIfInBounds i true) = [j]) (hrj : Region.ready .any ops (listed.setIfInBounds j true) = [i])
    (hl : (listed.setIfInBounds j true).setIfInBounds i true = (listed.setIfInBounds i true).setIfInBounds j true) (hp : (a.put oj.dst u).put oi.dst v = (a.put oi.dst v).put oj.dst u)
    (hxi : (execOp a.eval oi).run P w = .ok (.value v) w) (hxj : (execOp (a.put oi.dst v).eval oj).run P w = .ok (.value u) w')
    (hxj' : (execOp a.eval oj).run P w = .ok (.value u) w') (hxi' : (execOp (a.put oj.dst u).eval oi).run P w' = .ok (.value v) w') (hS : S w) (hS' : S w')
    (h : wpAnyH P .any ops Q S fuel ((listed.setIfInBounds i true).setIfInBounds j true) ((a.put oi.dst v).put oj.dst u) w') : wpAnyH P .any ops Q S (fuel + 2) listed a w := by
  refine wpAnyH_all hr (by simp) fun k hk => ?_
  simp only [List.mem_cons, List.not_mem_nil, or_false] at hk
  rcases hk with rfl | rfl
  · exact opValue hi hgi hxi ⟨hS, anyH_one hj hgj hri hxj hS' h⟩
  · refine opValue hj hgj hxj' ⟨hS', anyH_one hi hgi hrj hxi' hS' ?_⟩
    rw [hl, hp]
    exact h
/-- i reads; j reads, k stands on j: three orders -/
theorem anyH_three {i j k : Nat} {oi oj ok : Oper} {v u x : Value} {w' : World} (hi : ops[i]? = some oi) (hj : ops[j]? = some oj) (hk : ops[k]? = some ok) (hgi : oi.guard = none) (hgj : oj.guard = none) (hgk : ok.guard = none)
    (hr : Region.ready .any ops listed = [i, j]) (hri : Region.ready .any ops (listed.setIfInBounds i true) = [j]) (hrij : Region.ready .any ops ((listed.setIfInBounds i true).setIfInBounds j true) = [k])
    (hrj : Region.ready .any ops (listed.setIfInBounds j true) = [i, k]) (hrji : Region.ready .any ops ((listed.setIfInBounds j true).setIfInBounds i true) = [k]) (hrjk : Region.ready .any ops ((listed.setIfInBounds j true).setIfInBounds k true) = [i])
    (hl1 : (((listed.setIfInBounds j true).setIfInBounds k true).setIfInBounds i true) = ((listed.setIfInBounds i true).setIfInBounds j true).setIfInBounds k true)
    (hl2 : (((listed.setIfInBounds j true).setIfInBounds i true).setIfInBounds k true) = ((listed.setIfInBounds i true).setIfInBounds j true).setIfInBounds k true)
    (hp1 : ((a.put oj.dst u).put ok.dst x).put oi.dst v = ((a.put oi.dst v).put oj.dst u).put ok.dst x)
    (hp2 : (a.put oj.dst u).put oi.dst v = (a.put oi.dst v).put oj.dst u)
    (h1 : (execOp a.eval oi).run P w = .ok (.value v) w) (h2 : (execOp (a.put oi.dst v).eval oj).run P w = .ok (.value u) w) (h3 : (execOp ((a.put oi.dst v).put oj.dst u).eval ok).run P w = .ok (.value x) w')
    (h4 : (execOp a.eval oj).run P w = .ok (.value u) w) (h5 : (execOp (a.put oj.dst u).eval oi).run P w = .ok (.value v) w)
    (h6 : (execOp (a.put oj.dst u).eval ok).run P w = .ok (.value x) w') (h7 : (execOp ((a.put oj.dst u).put ok.dst x).eval oi).run P w' = .ok (.value v) w') (hS : S w) (hS' : S w')
    (h : wpAnyH P .any ops Q S fuel (((listed.setIfInBounds i true).setIfInBounds j true).setIfInBounds k true) (((a.put oi.dst v).put oj.dst u).put ok.dst x) w') : wpAnyH P .any ops Q S (fuel + 3) listed a w := by
  refine wpAnyH_all hr (by simp) fun l hl => ?_
  simp only [List.mem_cons, List.not_mem_nil, or_false] at hl
  rcases hl with rfl | rfl
  · exact opValue hi hgi h1 ⟨hS, anyH_one hj hgj hri h2 hS (anyH_one hk hgk hrij h3 hS' h)⟩
  · refine opValue hj hgj h4 ⟨hS, wpAnyH_all hrj (by simp) fun m hm => ?_⟩
    simp only [List.mem_cons, List.not_mem_nil, or_false] at hm
    rcases hm with rfl | rfl
    · refine opValue hi hgi h5 ⟨hS, anyH_one hk hgk hrji (by rw [hp2]; exact h3) hS' ?_⟩
      rw [hl2, hp2]
      exact h
    · refine opValue hk hgk h6 ⟨hS', anyH_one hi hgi hrjk h7 hS' ?_⟩
      rw [hl1, hp1]
      exact h
end
end Go.Quad
