/- The walk of LeaseApart: what is heard of one node changes nothing of the others. -/
import Derived.Test.YtolgfemjpkgloaaLeaseE
namespace Go.Proofs.Ytolgfemjpkgloaa
open Go.RowKit Go.Quad _root_.Quad.Lease

/-! ### the scripts of this layer -/
structure OpD where
  d : Nat
  node : Int
  now : Nat
  life : Nat

def opV (o : OpD) : List Value := [.int .u8 (o.d : Int), .int .i64 o.node, .int .u32 (o.now : Int), .int .u32 (o.life : Int)]
theorem opV_length (o : OpD) : (opV o).length = 4 := rfl
def OkOp (o : OpD) : Prop := o.d < 256 ∧ (-9223372036854775808 ≤ o.node ∧ o.node ≤ 9223372036854775807) ∧ o.now ≤ 4294967295 ∧ o.life ≤ 4294967295

theorem op_open {w : World} {cs : List Value} (h : RC Try.prog w 44 cs) : ∃ o, cs = opV o ∧ OkOp o := by
  have hl := h.len Try.underlying44
  obtain ⟨n, h0, w0⟩ := (h.fld Try.underlying44 0 5 0 1 (by kernel_rfl) (by kernel_rfl)).int Try.underlying5
  obtain ⟨m, h1, w1⟩ := (h.fld Try.underlying44 1 3 1 1 (by kernel_rfl) (by kernel_rfl)).int Try.underlying3
  obtain ⟨x, h2, w2⟩ := (h.fld Try.underlying44 2 23 2 1 (by kernel_rfl) (by kernel_rfl)).int Try.underlying23
  obtain ⟨y, h3, w3⟩ := (h.fld Try.underlying44 3 23 3 1 (by kernel_rfl) (by kernel_rfl)).int Try.underlying23
  rw [show Try.prog.cellsOf 44 = 4 by kernel_rfl] at hl
  match cs, hl with
  | [a, b, c, d], _ =>
    simp at h0 h1 h2 h3
    subst h0 h1 h2 h3
    have b0 := bounds_u8 w0
    obtain ⟨x', rfl, hx⟩ := nat_of_u32 w2
    obtain ⟨y', rfl, hy⟩ := nat_of_u32 w3
    simp only [Lit.wf, Bool.and_eq_true, decide_eq_true_eq] at w1
    exact ⟨⟨n.toNat, m, x', y'⟩, by unfold opV; rw [show ((n.toNat : Nat) : Int) = n from by omega], by show n.toNat < 256; omega, w1, hx, hy⟩

theorem ops_open {w : World} {v : Value} (h : RV Try.prog w 39 v) :
    ∃ (a : Option Addr) (cap : Nat) (l : List OpD), v = .slice a l.length cap ∧ (∀ o ∈ l, OkOp o) ∧ CS w a cap 4 (l.flatMap opV) ∧ l.length ≤ cap := by
  obtain ⟨a, cap, E, rfl, hE, hl, hc⟩ := h.slice Try.underlying39 4 (by kernel_rfl) (by decide)
  have key : ∀ E : List (List Value), (∀ x ∈ E, x.length = 4 ∧ RC Try.prog w 44 x) → ∃ l : List OpD, l.length = E.length ∧ E.flatten = l.flatMap opV ∧ ∀ o ∈ l, OkOp o := by
    intro E
    induction E with
    | nil => intro _; exact ⟨[], rfl, rfl, by simp⟩
    | cons x E ih =>
      intro h
      obtain ⟨l, h1, h2, h3⟩ := ih fun y hy => h y (List.mem_cons_of_mem _ hy)
      obtain ⟨o, ho, hok⟩ := op_open (h x (List.mem_cons_self ..)).2
      exact ⟨o :: l, by simp [h1], by rw [List.flatten_cons, h2, ho, List.flatMap_cons], fun q hq => by
        rcases List.mem_cons.1 hq with rfl | hq
        · exact hok
        · exact h3 q hq⟩
  obtain ⟨l, h1, h2, h3⟩ := key E hE
  exact ⟨a, cap, l, by rw [h1], h3, by rw [← h2]; exact hc, by omega⟩

def stepN (o : OpD) (L : List Nd) : List Nd := if o.d < 2 then (hearN L o.node o.now o.life).1 else (tickN L 0 o.now).1

theorem stepN_length (o : OpD) (L : List Nd) : (stepN o L).length = L.length := by
  unfold stepN hearN
  split
  · split
    · rfl
    · simp
  · exact tickN_length _ _ _

theorem nodeAt_hear (L : List Nd) (i : Int) (now life : Nat) (k : Int) (h : k ≠ i) : nodeAt (hearN L i now life).1 k = nodeAt L k := by
  unfold hearN
  split
  · rfl
  · unfold nodeAt
    rw [List.length_set]
    by_cases hk : k < 0 ∨ (L.length : Int) ≤ k
    · rw [if_pos hk, if_pos hk]
    · rw [if_neg hk, if_neg hk, List.getD_eq_getElem?_getD, List.getElem?_set_ne (by omega), List.getD_eq_getElem?_getD]

/-- two books, apart -/
structure Two (w0 w : World) (ga sa gb sb : Nat) (La Lb : List Nd) : Prop where
  a : IsBook w ga sa La
  b : IsBook w gb sb Lb
  below : Below w0.heap.size w0 w
  old : w0.heap.size ≤ sa ∧ sa < ga ∧ ga < sb ∧ sb < gb

theorem Two.later {w0 w w' : World} {ga sa gb sb : Nat} {La Lb : List Nd} (h : Two w0 w ga sa gb sb La Lb) (hb : Below w.heap.size w w') : Two w0 w' ga sa gb sb La Lb :=
  ⟨h.a.keep (Chg.of_below [] hb) (by simp) (by simp), h.b.keep (Chg.of_below [] hb) (by simp) (by simp), h.below.trans (hb.mono h.below.size), h.old⟩
theorem Two.putA {w0 w w' : World} {ga sa gb sb : Nat} {La Lb La' : List Nd} (h : Two w0 w ga sa gb sb La Lb) (hB : IsBook w' ga sa La') (hc : Chg [sa] w w') : Two w0 w' ga sa gb sb La' Lb := by
  have := h.old
  exact ⟨hB, h.b.keep hc (by simp; omega) (by simp; omega), h.below.trans (hc.below h.below.size (by intro k hk; simp at hk; omega)), h.old⟩
theorem Two.putB {w0 w w' : World} {ga sa gb sb : Nat} {La Lb Lb' : List Nd} (h : Two w0 w ga sa gb sb La Lb) (hB : IsBook w' gb sb Lb') (hc : Chg [sb] w w') : Two w0 w' ga sa gb sb La Lb' := by
  have := h.old
  exact ⟨h.a.keep hc (by simp; omega) (by simp; omega), hB, h.below.trans (hc.below h.below.size (by intro k hk; simp at hk; omega)), h.old⟩

def ApRel (m ga sa gb sb : Nat) (w0 : World) (i : Value) (w : World) : Prop :=
  ∃ (k : Nat) (L : List Nd), i = .int .i64 (k : Int) ∧ k ≤ m ∧ Two w0 w ga sa gb sb L L
def ApRel2 (o : OpD) (ob sl ga sa gb sb : Nat) (L : List Nd) (w0 : World) (i : Value) (w : World) : Prop :=
  ∃ (j : Nat), i = .int .i64 (j : Int) ∧ j ≤ 2 ∧ Two w0 w ga sa gb sb (if 1 ≤ j then stepN o L else L) (if 2 ≤ j then stepN o L else L) ∧ Blk w ob (opV o) 44 ∧ Blk w sl [.pointer (some ⟨ga, 0, none⟩), .pointer (some ⟨gb, 0, none⟩)] 25
def ApRel3 (i : Value) : Prop := ∃ k : Nat, i = .int .i64 (k : Int) ∧ k ≤ 4

/-- a step of a script, done to one book -/
theorem step_hear (w : World) (g s : Nat) (L : List Nd) (o : OpD) (h : IsBook w g s L) (ho : OkOp o) (hd : o.d < 2) :
    Calls Try.prog 9 #[.pointer (some ⟨g, 0, none⟩), .int .i64 o.node, .int .u32 (o.now : Int), .int .u32 (o.life : Int)] w fun e w' => (∃ v, e = .returned v) ∧ IsBook w' g s (stepN o L) ∧ Chg [s] w w' := by
  refine (hear_calls w g s L o.node o.now o.life h ho.2.1 ho.2.2.1 ho.2.2.2).mono ?_
  rintro e w' ⟨rfl, hB, hc⟩
  refine ⟨⟨_, rfl⟩, ?_, hc⟩
  unfold stepN
  rw [if_pos hd]
  exact hB
theorem step_tick (w : World) (g s : Nat) (L : List Nd) (o : OpD) (h : IsBook w g s L) (ho : OkOp o) (hd : ¬ o.d < 2) :
    Calls Try.prog 10 #[.pointer (some ⟨g, 0, none⟩), .int .u32 (o.now : Int)] w fun e w' => (∃ v, e = .returned v) ∧ IsBook w' g s (stepN o L) ∧ Chg [s] w w' := by
  refine (tick_calls w g s L o.now h ho.2.2.1).mono ?_
  rintro e w' ⟨gv, av, rfl, hT⟩
  refine ⟨⟨_, rfl⟩, ?_, hT.chg⟩
  unfold stepN
  rw [if_neg hd]
  exact hT.book

set_option maxRecDepth 20000 in
set_option maxHeartbeats 4000000 in
theorem leaseApart_walk (v : Value) (node : Int) (x y : Int) (w : World) (h : RV Try.prog w 39 v) (hnode : (Lit.int .i64 node).wf = true) (hx : (Lit.int .u32 x).wf = true) (hy : (Lit.int .u32 y).wf = true) :
    Calls Try.prog 5 #[v, .int .i64 node, .int .u32 x, .int .u32 y] w fun e w' => e = .returned (.bool true) ∧ Below w.heap.size w w' := by
  obtain ⟨now, rfl, hnow⟩ := nat_of_u32 hx
  obtain ⟨life, rfl, hlife⟩ := nat_of_u32 hy
  obtain ⟨a, cap, l, rfl, hok, hcs, hlc⟩ := ops_open h
  have hmx := CS.max hcs
  have hl : (l.length : Int) ≤ 9223372036854775807 := by unfold maxLen at hmx; omega
  simp only [Lit.wf, Bool.and_eq_true, decide_eq_true_eq] at hnode
  have Hnode := hid (show -9223372036854775808 ≤ node ∧ node ≤ 9223372036854775807 from hnode)
  have Hok := hid hok
  have Hcs := hid hcs
  clear h hok hcs hmx hlc hx hy hnode
  go_enter Try.func5, Try.ntmps5
  go_wp2_with fail
  refine (awake_calls w).mono ?_
  rintro e w1 ⟨rfl, hb⟩
  have H1 := hid hb
  clear hb
  go_wp2_with fail
  refine (newbook_calls w1 4 (by omega)).mono ?_
  rintro e w2 ⟨ga, sa, rfl, hB, hs, hsg, hb⟩
  have B2 := hid hB
  have H2 := hid (H1.out.trans (hb.mono H1.out.size))
  have O2 := hid (And.intro (Nat.le_trans H1.out.size hs) hsg)
  clear hB hs hsg hb
  go_wp2_with fail
  refine (newbook_calls w2 4 (by omega)).mono ?_
  rintro e w3 ⟨gb, sb, rfl, hB, hs, hsg, hb⟩
  have T3 : Kept (Two w w3 ga sa gb sb (List.replicate 4 zero) (List.replicate 4 zero)) := ⟨B2.out.keep (Chg.of_below [] hb) (by simp) (by simp), hB, H2.out.trans (hb.mono H2.out.size), by
    have := B2.out.own.lt
    have := O2.out
    omega⟩
  clear hB hs hsg hb
  go_wp2_with fail
  go_loopw [30] (fun i wr => ApRel l.length ga sa gb sb w i wr) (fun i _ => l.length - (intOf i).toNat)
  case atStart => exact ⟨0, _, rfl, Nat.zero_le _, T3.out⟩
  case round =>
    obtain ⟨k, L, rfl, hk, hT⟩ := hrel
    have T := hid hT
    clear hT
    by_cases hgo : k < l.length ∧ k < 60
    · obtain ⟨hkl, h60⟩ := hgo
      have Ho := hid (Hok.out _ (List.getElem_mem hkl))
      obtain ⟨bo, off, rfl, hc⟩ := cs_row opV_length Hcs.out hkl (by decide)
      have d0 := cell_later T.out.below (hc 0 _ rfl)
      have d1 := cell_later T.out.below (hc 1 _ rfl)
      have d2 := cell_later T.out.below (hc 2 _ rfl)
      have d3 := cell_later T.out.below (hc 3 _ rfl)
      clear hc
      generalize l[k] = o at Ho d0 d1 d2 d3
      have hkl' : (k : Int) < (l.length : Int) := by omega
      have h60' : ¬ ((60 : Int) ≤ (k : Int)) := by omega
      have Hk := hid hkl
      rw [Nat.add_zero] at d0
      go_wp2_with fail
      obtain ⟨wo, rfl⟩ : ∃ wo : World, wo = wr := ⟨_, rfl⟩
      have Oz := hid (And.intro T.out.a.own.lt (And.intro T.out.a.row.lt (And.intro T.out.b.own.lt T.out.b.row.lt)))
      have Noa : Kept (wo.heap.size ∉ [sa] ∧ wo.heap.size + 1 ∉ [sa]) := ⟨by have := Oz.out; simp; omega⟩
      have Nob : Kept (wo.heap.size ∉ [sb] ∧ wo.heap.size + 1 ∉ [sb]) := ⟨by have := Oz.out; simp; omega⟩
      have Bl0 := hid ((blk_alloc wo (opV o) 44).below (below_alloc _ (.cells #[.pointer (some ⟨ga, 0, none⟩), .pointer (some ⟨gb, 0, none⟩)] 25)))
      have Bl1 := hid (show Blk ((wo.alloc (.cells (opV o).toArray 44)).alloc (.cells #[.pointer (some ⟨ga, 0, none⟩), .pointer (some ⟨gb, 0, none⟩)] 25)) (wo.heap.size + 1) [.pointer (some ⟨ga, 0, none⟩), .pointer (some ⟨gb, 0, none⟩)] 25 from by
        have := blk_alloc (wo.alloc (.cells (opV o).toArray 44)) [.pointer (some ⟨ga, 0, none⟩), .pointer (some ⟨gb, 0, none⟩)] 25
        rw [show (wo.alloc (.cells (opV o).toArray 44)).heap.size = wo.heap.size + 1 from by simp] at this
        exact this)
      go_loopw [41] (fun i wr => ApRel2 o wo.heap.size (wo.heap.size + 1) ga sa gb sb L w i wr) (fun i _ => 2 - (intOf i).toNat)
      case atStart => exact ⟨0, rfl, by omega, by simpa using T.out.later (below_step (below_alloc wo _) (below_alloc _ _)), Bl0.out, Bl1.out⟩
      case round =>
        clear d0 d1 d2 d3
        obtain ⟨j, rfl, hj, hT, hBo, hBs⟩ := hrel
        have q0 := hBo.get 0 rfl
        have q1 := hBo.get 1 rfl
        have q2 := hBo.get 2 rfl
        have q3 := hBo.get 3 rfl
        have r0 := hBs.get 0 rfl
        have r1 := hBs.get 1 rfl
        have Bo := hid hBo
        have Bs := hid hBs
        clear hBo hBs
        by_cases j0 : j = 0
        · subst j0
          have Tj := hid (show Two w wr ga sa gb sb L L by simpa using hT)
          clear hT hj
          by_cases hd : o.d < 2
          · have hd' : (o.d : Int) < 2 := by omega
            have Hd := hid hd
            clear hd
            go_wp2_with fail
            refine (step_hear wr ga sa L o Tj.out.a Ho.out Hd.out).mono ?_
            rintro e w5 ⟨⟨v5, rfl⟩, hB, hc⟩
            have T5 := hid (Tj.out.putA hB hc)
            have Bo5 := hid (Bo.out.keep hc Noa.out.1)
            have Bs5 := hid (Bs.out.keep hc Noa.out.2)
            clear hB hc
            go_wp2_with fail
            have RR : ApRel2 o wo.heap.size (wo.heap.size + 1) ga sa gb sb L w (.int .i64 1) w5 := ⟨1, by go_num, by omega, by simpa using T5.out, Bo5.out, Bs5.out⟩
            refine ⟨?_, by simp [intOf]⟩
            first | exact RR | ((repeat apply Exists.intro); refine ⟨RR, ?_⟩; and_intros <;> rfl)
          · have hd' : ¬ ((o.d : Int) < 2) := by omega
            have Hd := hid hd
            clear hd
            go_wp2_with fail
            refine (step_tick wr ga sa L o Tj.out.a Ho.out Hd.out).mono ?_
            rintro e w5 ⟨⟨v5, rfl⟩, hB, hc⟩
            have T5 := hid (Tj.out.putA hB hc)
            have Bo5 := hid (Bo.out.keep hc Noa.out.1)
            have Bs5 := hid (Bs.out.keep hc Noa.out.2)
            clear hB hc
            go_wp2_with fail
            have RR : ApRel2 o wo.heap.size (wo.heap.size + 1) ga sa gb sb L w (.int .i64 1) w5 := ⟨1, by go_num, by omega, by simpa using T5.out, Bo5.out, Bs5.out⟩
            refine ⟨?_, by simp [intOf]⟩
            first | exact RR | ((repeat apply Exists.intro); refine ⟨RR, ?_⟩; and_intros <;> rfl)
        by_cases j1 : j = 1
        · subst j1
          have Tj := hid (show Two w wr ga sa gb sb (stepN o L) L by simpa using hT)
          clear hT hj j0
          by_cases hd : o.d < 2
          · have hd' : (o.d : Int) < 2 := by omega
            have Hd := hid hd
            clear hd
            go_wp2_with fail
            refine (step_hear wr gb sb L o Tj.out.b Ho.out Hd.out).mono ?_
            rintro e w5 ⟨⟨v5, rfl⟩, hB, hc⟩
            have T5 := hid (Tj.out.putB hB hc)
            have Bo5 := hid (Bo.out.keep hc Nob.out.1)
            have Bs5 := hid (Bs.out.keep hc Nob.out.2)
            clear hB hc
            go_wp2_with fail
            have RR : ApRel2 o wo.heap.size (wo.heap.size + 1) ga sa gb sb L w (.int .i64 2) w5 := ⟨2, by go_num, by omega, by simpa using T5.out, Bo5.out, Bs5.out⟩
            refine ⟨?_, by simp [intOf]⟩
            first | exact RR | ((repeat apply Exists.intro); refine ⟨RR, ?_⟩; and_intros <;> rfl)
          · have hd' : ¬ ((o.d : Int) < 2) := by omega
            have Hd := hid hd
            clear hd
            go_wp2_with fail
            refine (step_tick wr gb sb L o Tj.out.b Ho.out Hd.out).mono ?_
            rintro e w5 ⟨⟨v5, rfl⟩, hB, hc⟩
            have T5 := hid (Tj.out.putB hB hc)
            have Bo5 := hid (Bo.out.keep hc Nob.out.1)
            have Bs5 := hid (Bs.out.keep hc Nob.out.2)
            clear hB hc
            go_wp2_with fail
            have RR : ApRel2 o wo.heap.size (wo.heap.size + 1) ga sa gb sb L w (.int .i64 2) w5 := ⟨2, by go_num, by omega, by simpa using T5.out, Bo5.out, Bs5.out⟩
            refine ⟨?_, by simp [intOf]⟩
            first | exact RR | ((repeat apply Exists.intro); refine ⟨RR, ?_⟩; and_intros <;> rfl)
        · obtain rfl : j = 2 := by omega
          have Tj := hid (show Two w wr ga sa gb sb (stepN o L) (stepN o L) by simpa using hT)
          clear hT hj j0 j1
          go_wp2_with fail
          have RR : ApRel l.length ga sa gb sb w (.int .i64 ((k : Int) + 1)) wr := ⟨k + 1, _, by go_num, by have := Hk.out; omega, Tj.out⟩
          refine ⟨?_, by simp [intOf]; have := Hk.out; omega⟩
          first | exact RR | ((repeat apply Exists.intro); refine ⟨RR, ?_⟩; and_intros <;> rfl)
    · by_cases hkl : k < l.length
      · obtain ⟨bo, off, rfl, hc⟩ := cs_row opV_length Hcs.out hkl (by decide)
        have d0 := cell_later T.out.below (hc 0 _ rfl)
        have d1 := cell_later T.out.below (hc 1 _ rfl)
        have d2 := cell_later T.out.below (hc 2 _ rfl)
        have d3 := cell_later T.out.below (hc 3 _ rfl)
        clear hc
        generalize l[k] = o at d0 d1 d2 d3
        have hkl' : (k : Int) < (l.length : Int) := by omega
        have h60' : (60 : Int) ≤ (k : Int) := by omega
        rw [Nat.add_zero] at d0
        have TT := hid (T.out.later (below_alloc wr (.cells (opV o).toArray 44)))
        go_wp2_with fail
        refine (hear_calls _ ga sa L node now life TT.out.a Hnode.out hnow hlife).mono ?_
        rintro e w5 ⟨rfl, hB, hc⟩
        have T5 := hid (TT.out.putA hB hc)
        clear hB hc
        go_wp2_with fail
        go_loop [67] (fun i => ApRel3 i) (fun i => 4 - (intOf i).toNat)
        case atStart => exact ⟨0, rfl, by omega⟩
        case round =>
          obtain ⟨q, rfl, hq⟩ := hrel
          by_cases hq4 : q < 4
          · have hq4' : (q : Int) < 4 := by omega
            by_cases hqn : (q : Int) = node
            · have hqn' : ((q : Int) != node) = false := by simp [hqn]
              have Hq := hid hqn
              clear hqn
              go_wp2_with fail
              have RR : ApRel3 (.int .i64 ((q : Int) + 1)) := ⟨q + 1, by go_num, by omega⟩
              refine ⟨?_, by simp [intOf]; omega⟩
              first | exact RR | ((repeat apply Exists.intro); refine ⟨RR, ?_⟩; and_intros <;> rfl)
            · have hqn' : ((q : Int) != node) = true := by simpa using hqn
              have e1 : nodeAt (hearN L node now life).1 (q : Int) = nodeAt L q := nodeAt_hear L node now life q hqn
              have s1 := state_calls w5 ga sa _ q T5.out.a (by omega)
              have l1 := life_calls w5 ga sa _ q T5.out.a (by omega)
              have u1 := until_calls w5 ga sa _ q T5.out.a (by omega)
              rw [e1] at s1 l1 u1
              have C1 := hid (And.intro s1 (And.intro l1 u1))
              have C2 := hid (And.intro (state_calls w5 gb sb _ q T5.out.b (by omega)) (And.intro (life_calls w5 gb sb _ q T5.out.b (by omega)) (until_calls w5 gb sb _ q T5.out.b (by omega))))
              generalize nodeAt L (q : Int) = nd at C1 C2
              clear e1 s1 l1 u1 hqn
              go_wp2_with fail
              refine C1.out.1.mono ?_; rintro e w' ⟨rfl, rfl⟩
              go_wp2_with fail
              refine C2.out.1.mono ?_; rintro e w' ⟨rfl, rfl⟩
              go_wp2_with fail
              refine C1.out.2.1.mono ?_; rintro e w' ⟨rfl, rfl⟩
              go_wp2_with fail
              refine C2.out.2.1.mono ?_; rintro e w' ⟨rfl, rfl⟩
              go_wp2_with fail
              refine C1.out.2.2.mono ?_; rintro e w' ⟨rfl, rfl⟩
              go_wp2_with fail
              refine C2.out.2.2.mono ?_; rintro e w' ⟨rfl, rfl⟩
              go_wp2_with fail
              have RR : ApRel3 (.int .i64 ((q : Int) + 1)) := ⟨q + 1, by go_num, by omega⟩
              refine ⟨?_, by simp [intOf]; omega⟩
              first | exact RR | ((repeat apply Exists.intro); refine ⟨RR, ?_⟩; and_intros <;> rfl)
          · have hq4' : ¬ ((q : Int) < 4) := by omega
            go_wp2_with fail
            go_ret
            exact ⟨rfl, T5.out.below⟩
      · have hkl' : ¬ ((k : Int) < (l.length : Int)) := by omega
        have TT := hid T.out
        go_wp2_with fail
        refine (hear_calls _ ga sa L node now life TT.out.a Hnode.out hnow hlife).mono ?_
        rintro e w5 ⟨rfl, hB, hc⟩
        have T5 := hid (TT.out.putA hB hc)
        clear hB hc
        go_wp2_with fail
        go_loop [67] (fun i => ApRel3 i) (fun i => 4 - (intOf i).toNat)
        case atStart => exact ⟨0, rfl, by omega⟩
        case round =>
          obtain ⟨q, rfl, hq⟩ := hrel
          by_cases hq4 : q < 4
          · have hq4' : (q : Int) < 4 := by omega
            by_cases hqn : (q : Int) = node
            · have hqn' : ((q : Int) != node) = false := by simp [hqn]
              have Hq := hid hqn
              clear hqn
              go_wp2_with fail
              have RR : ApRel3 (.int .i64 ((q : Int) + 1)) := ⟨q + 1, by go_num, by omega⟩
              refine ⟨?_, by simp [intOf]; omega⟩
              first | exact RR | ((repeat apply Exists.intro); refine ⟨RR, ?_⟩; and_intros <;> rfl)
            · have hqn' : ((q : Int) != node) = true := by simpa using hqn
              have e1 : nodeAt (hearN L node now life).1 (q : Int) = nodeAt L q := nodeAt_hear L node now life q hqn
              have s1 := state_calls w5 ga sa _ q T5.out.a (by omega)
              have l1 := life_calls w5 ga sa _ q T5.out.a (by omega)
              have u1 := until_calls w5 ga sa _ q T5.out.a (by omega)
              rw [e1] at s1 l1 u1
              have C1 := hid (And.intro s1 (And.intro l1 u1))
              have C2 := hid (And.intro (state_calls w5 gb sb _ q T5.out.b (by omega)) (And.intro (life_calls w5 gb sb _ q T5.out.b (by omega)) (until_calls w5 gb sb _ q T5.out.b (by omega))))
              generalize nodeAt L (q : Int) = nd at C1 C2
              clear e1 s1 l1 u1 hqn
              go_wp2_with fail
              refine C1.out.1.mono ?_; rintro e w' ⟨rfl, rfl⟩
              go_wp2_with fail
              refine C2.out.1.mono ?_; rintro e w' ⟨rfl, rfl⟩
              go_wp2_with fail
              refine C1.out.2.1.mono ?_; rintro e w' ⟨rfl, rfl⟩
              go_wp2_with fail
              refine C2.out.2.1.mono ?_; rintro e w' ⟨rfl, rfl⟩
              go_wp2_with fail
              refine C1.out.2.2.mono ?_; rintro e w' ⟨rfl, rfl⟩
              go_wp2_with fail
              refine C2.out.2.2.mono ?_; rintro e w' ⟨rfl, rfl⟩
              go_wp2_with fail
              have RR : ApRel3 (.int .i64 ((q : Int) + 1)) := ⟨q + 1, by go_num, by omega⟩
              refine ⟨?_, by simp [intOf]; omega⟩
              first | exact RR | ((repeat apply Exists.intro); refine ⟨RR, ?_⟩; and_intros <;> rfl)
          · have hq4' : ¬ ((q : Int) < 4) := by omega
            go_wp2_with fail
            go_ret
            exact ⟨rfl, T5.out.below⟩
end Go.Proofs.Ytolgfemjpkgloaa
