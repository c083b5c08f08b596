/- The walks of layer 16: a job is over. -/
import Derived.Test.YtombndhjoaaaiaaDoorJobC
import Derived.StillTailTactics
import Derived.Deep.RegionLaw
import Derived.Deep.CutRange
import Derived.Deep.CutBlock
namespace Go.Proofs.YtombndhjoaaaiaaDoor
open Go.RowKit Go.Quad _root_.Quad _root_.Quad.Ink

theorem step_ok {P : Program} {ops : Array Oper} {o : Oper} {a : Act} {w : World} {K : Act → World → Prop} {Q : Exit → Act → World → Prop} {E : Prop}
    (hg : o.guard = none) (h : OpOk P o a.eval w fun v w' => K (a.put o.dst v) w') : if Region.wanted o (yielded ops a.tmps) = true then Oper.wp P o a w K Q else E := by
  have hw : Region.wanted o (yielded ops a.tmps) = true := by simp [Region.wanted, hg]
  rw [if_pos hw]
  unfold Oper.wp
  unfold OpOk at h
  split at h
  · rename_i v w' e; rw [e]; exact h
  · rename_i w' e; rw [e]; exact h
  · rename_i f args w' e
    rw [e, Oper.upon_enter]
    refine h.mono ?_
    rintro e w'' ⟨v, rfl, hk⟩
    exact hk
  · exact h.elim
theorem opOk_appendJ {o : Oper} {ρ : Operand → Value} {w : World} {K : Value → World → Prop} (s x : Operand) (ho : o.op = .call { callee := .builtin .append, args := #[s, x], argTypes := #[43, 43] })
    {B : Nat} {v : Value} {l : List JobD} (h : JR w B v l) (hBw : B ≤ w.heap.size) (hl : l.length ≤ 1000) (j : JobD) (ad : Addr) (c : Nat) (hj : ∀ i u, (jobV j)[i]? = some u → w.cell? (ad.add i) = some u) (hs : ρ s = v) (hx : ρ x = .slice (some ad) 1 c)
    (hK : ∀ v' w', JR w' B v' (l ++ [j]) → Chg v.ownBlock.toList w w' → (v'.ownBlock = v.ownBlock ∨ (v'.ownBlock = some w.heap.size ∧ w.heap.size < w'.heap.size)) → K v' w') : OpOk Tryd.prog o ρ w K := by
  obtain ⟨v', w', hr, h1, h2, h3⟩ := jr_append h hBw hl j ad c hj o.type
  refine opOk_run (v := v') (w' := w') ?_ (hK v' w' h1 h2 h3)
  simp only [execOp, ho, resolve, invoke, builtin, Sem.run_bind, Sem.run_pure, Result.andThen_ok, List.map_toArray, List.map_cons, List.map_nil, hs, hx, hr]
theorem wpList_cutJ {w : World} {ops : Array Oper} {rest : List Oper} {o : Oper} {ac : Act} {Q : Exit → Act → World → Prop}
    (x : Operand) (ho : o.op = Op.slice 43 x (some (.const (.int .i64 1))) none none) (hw : Region.wanted o (yielded ops ac.tmps) = true) (a : Option Addr) (n c : Nat) (v' : Value) (hx : ac.eval x = .slice a n c)
    (hr : (Instr.slice 43 (.slice a n c) (some (.int .i64 1)) none none).run Tryd.prog w = .ok v' w) (hK : wpList Tryd.prog ops Q rest (ac.put o.dst v') w) : wpList Tryd.prog ops Q (o :: rest) ac w := by
  refine wpList_by (fun u w' => u = v' ∧ w' = w) hw ⟨_, _, ?_, rfl, rfl⟩ (by rintro u w' ⟨rfl, rfl⟩; exact hK)
  simp only [execOp, ho, hx, Sem.run_bind, Result.andThen, Sem.run_pure]
  simp [hr, Instr.sliceAt, run_underlying under_jobs, Result.andThen, BigFrame.eval_const]
theorem tbV_set3 (t : TbD) (b : Nat) (ov v : Value) : (tbV t b ov).set 3 v = tbV t b v := rfl
theorem tbV_over (t : TbD) (A O : List JobD) (b : Nat) (ov : Value) : tbV { t with active := A, over := O } b ov = tbV t b ov := rfl

def JeMid (w : World) (B T b : Nat) (ov : Value) (t : TbD) (A : List JobD) (j : JobD) (w' : World) : Prop :=
  ∃ v, Blk w' T (tbV t b v) 75 ∧ JR w' B v (t.over ++ [j]) ∧ (∃ D, w'.ownsMap Tryd.prog 28 jobR b A.length D ∧ MapIs D A) ∧ Chg (tbS T b ov) w w' ∧ ∀ k, v.ownBlock = some k → k ∈ tbS T b ov ∨ w.heap.size ≤ k
def JeEnd (w : World) (B T b : Nat) (ov : Value) (t' : TbD) (w' : World) : Prop := ∃ ov', IsTb w' B T b ov' t' ∧ Chg (tbS T b ov) w w' ∧ ∀ k, ov'.ownBlock = some k → k ∈ tbS T b ov ∨ w.heap.size ≤ k
theorem owns_chg {S : List Nat} {w w' : World} {P : Program} {k : TypeId} {R : Value → Option (DataW Unit × List MemPlace)} {b n : Nat} {D : DataW Unit} (h : w.ownsMap P k R b n D) (hc : Chg S w w') (hb : b ∉ S) : w'.ownsMap P k R b n D := owns_block h (hc.block b h.lt hb)

set_option maxRecDepth 100000 in
set_option maxHeartbeats 2000000 in
theorem jend_calls (w : World) (B T b : Nat) (ov : Value) (t : TbD) (j : JobD) (st : Nat) (h : IsTb w B T b ov t) (hj : 1 ≤ j.id ∧ j.id ≤ t.spent)
    (hr : j.tier < 256 ∧ 1 ≤ j.k ∧ j.k ≤ 16 ∧ 1 ≤ j.w ∧ j.w ≤ 10000 ∧ 0 ≤ j.credit ∧ j.credit ≤ j.w) (hs : st = 4 ∨ st = 5) :
    Calls Tryd.prog 42 #[.pointer (some ⟨T, 0, none⟩), .agg (jobV j).toArray, .int .u8 (st : Int)] w (TbTo w B T b ov (endT t j st) (.tuple #[])) := by
  obtain ⟨z, hz⟩ : ∃ z, w.heap.size = z := ⟨_, rfl⟩
  have hok := endT_ok h.ok hj hr hs
  have hI : j.id < 4294967296 := by have := h.ok.spent; omega
  have hrise := h.ok.rise
  have hlen := h.ok.few.2
  have hin := h.lt
  have hne := h.ne
  have b0 := below_alloc w (.cells (jobV j).toArray 37)
  have K0 := blk_alloc w (jobV j) 37
  rw [hz] at K0
  have c4 := K0.get 4 rfl
  have f4 := K0.free 4
  have K1 := hid (show Blk (w.alloc (.cells ((jobV j).set 4 (.int .u8 (st : Int))).toArray 37)) z (jobV { j with state := st }) 37 from by rw [← hz]; exact blk_alloc w (jobV { j with state := st }) 37)
  have B1 := hid (below_alloc w (.cells ((jobV j).set 4 (.int .u8 (st : Int))).toArray 37))
  have HOK := hid hok
  have HRI := hid hrise
  have HL := hid hlen
  have HIN := hid hin
  have HNE := hid hne
  have HJ := hid hj
  have Zs := hid hz
  have H1 := hid (h.below B1.out)
  clear b0 K0 hok hrise hlen hin hne h hj
  go_enter Tryd.func42, Tryd.ntmps42
  go_upto_region 2 with fail
  clear c4 f4 hz
  generalize (w.alloc (.cells ((jobV j).set 4 (.int .u8 (st : Int))).toArray 37)) = w1 at K1 B1 H1 ⊢
  obtain ⟨D, hD, hM⟩ := H1.out.map
  have HD := hid hD
  have HM := hid hM
  have c2 := H1.out.own.get 2 rfl
  have k0 := K1.out.get 0 rfl
  clear hD hM
  go_still_tail 6, (by kernel_rfl)
  change wpList _ _ _ _ _ w1.drew
  have K2 := hid (K1.out.below (below_drew w1))
  have B2 := hid (B1.out.trans ((below_drew w1).mono B1.out.size))
  have H2 := hid (H1.out.below (below_drew w1))
  have HD2 := hid (show w1.drew.ownsMap Tryd.prog 28 jobR b t.active.length D from HD.out)
  generalize w1.drew = w2 at K2 B2 H2 HD2 ⊢
  clear K1 B1 H1 HD c2 k0
  go_upto_region 3 with (at_delete; go_must (refine wpList_delete_own _ rfl _ _ 72 28 rfl 37 keyed32 Tryd.underlying72 jobR b _ D rfl HD2.out (.int .u32 (j.id : Int)) (idK j.id) rfl (keyOf32 hI) ?_; intro w3 hown3 hturn3))
  have C3 := hid (show Chg [b] w2 w3 from by simpa using chg_grown hturn3.grown)
  have M3 := hid (HM.out.del HRI.out j.id)
  have MO3 := hid (show w3.ownsMap Tryd.prog 28 jobR b (t.active.filter fun x => x.id != j.id).length (D.del (idK j.id)) from by rw [← M3.out.size]; exact owns_tight hown3)
  have zne : z ∉ tbS T b ov := fun hm => by have := (HIN.out z hm).2; have := Zs.out; omega
  have zl2 := K2.out.lt
  have K3 := hid (K2.out.keep C3.out (by intro hm; simp at hm; exact zne (by simp [tbS, hm])))
  have T3 := hid (H2.out.own.keep C3.out (by intro hm; simp at hm; exact HNE.out.1 hm))
  have O3 := hid (H2.out.over.chg C3.out (by intro k hk hm; simp at hm; subst hm; exact HNE.out.2.2 hk))
  have B3 := hid (show w.heap.size ≤ w3.heap.size from Nat.le_trans B2.out.size C3.out.size)
  obtain ⟨ao, no, co, eov, hno, hco, _⟩ := O3.out.cs
  subst eov
  have c3 := T3.out.get 3 rfl
  have f3 := T3.out.free 3
  have k0 := K3.out.get 0 rfl
  have k1 := K3.out.get 1 rfl
  have k2 := K3.out.get 2 rfl
  have k3 := K3.out.get 3 rfl
  have k4 := K3.out.get 4 rfl
  have k5 := K3.out.get 5 rfl
  have lT := T3.out.lt
  have lz := K3.out.lt
  have hBw : B ≤ w3.heap.size := by have := (HIN.out T (by simp [tbS])).1; omega
  clear hown3 hturn3 HD2 HM
  dsimp only [Act.put]
  go_cut [] from 14 to 37 (fun w' => JeMid w B T b (.slice ao no co) t (t.active.filter fun x => x.id != j.id) { j with state := st } w')
  case first =>
    go_region_law (refine step_ok rfl ?_; refine opOk_appendJ (.tmp 18) (.tmp 20) rfl ((O3.out.below (below_drew w3)).below (below_alloc w3.drew (.cells (jobV { j with state := st }).toArray 37))) (Nat.le_trans hBw (below_alloc w3.drew (.cells (jobV { j with state := st }).toArray 37)).size) (by have := HL.out; omega) { j with state := st } ⟨w3.heap.size, 0, none⟩ 1 (fun i u hu => by rw [Addr.add_mid, Nat.zero_add]; exact (blk_alloc w3.drew (jobV { j with state := st }) 37).get i hu) rfl rfl ?_; intro v4 w4 hJ4 hC4 hv4; obtain ⟨a4, n4, c4, e4, hn4, hc4, _⟩ := hJ4.cs; subst e4; have J4 := hid hJ4; have C4 := hid hC4; have V4 := hid (show (Value.slice a4 n4 c4).ownBlock = (Value.slice ao no co).ownBlock ∨ (Value.slice a4 n4 c4).ownBlock = some (w3.heap.size + 1) from (by rcases hv4 with h | ⟨h, _⟩; exact .inl h; exact .inr (h.trans (congrArg some (by simp))))); have T4 := hid ((T3.out.below ((below_drew w3).trans (below_alloc w3.drew (.cells (jobV { j with state := st }).toArray 37)))).keep hC4 (by intro hm; exact HNE.out.2.1 (by simpa using hm))); have r3 := T4.out.get 3 rfl; have s3 := T4.out.free 3; clear hJ4 hC4 hv4)
    all_goals
      have R : JeMid w B T b (.slice ao no co) t (t.active.filter fun x => x.id != j.id) { j with state := st } (w4.setCell ⟨T, 3, none⟩ (.slice a4 n4 c4)) := by
        have hb34 := (below_drew w3).trans (below_alloc w3.drew (.cells (jobV { j with state := st }).toArray 37))
        have cS := chg_setCell w4 T 3 (.slice a4 n4 c4)
        have hJo : ∀ k, (Value.slice a4 n4 c4).ownBlock = some k → k ≠ T := by
          intro k hk e
          rcases V4.out with h | h
          · rw [h, e] at hk; exact HNE.out.2.1 hk
          · rw [h] at hk; simp only [Option.some.injEq] at hk; omega
        refine ⟨.slice a4 n4 c4, T4.out.set 3 (.slice a4 n4 c4), J4.out.chg cS (by intro k hk hm; simp at hm; exact hJo k hk hm), ⟨_, owns_chg (owns_chg (owns_block MO3.out (hb34.block b MO3.out.lt)) C4.out (by intro hm; exact HNE.out.2.2 (by simpa using hm))) cS (by simp; exact HNE.out.1.symm), M3.out⟩, ?_, fun k hk => ?_⟩
        · exact ((((Chg.of_below _ B2.out).trans (C3.out.mono (by intro k hk; simp at hk; simp [tbS, hk]))).trans (Chg.of_below _ hb34)).trans (C4.out.mono (by intro k hk; simp at hk; simp [tbS, hk]))).trans (cS.mono (by intro k hk; simp at hk; simp [tbS, hk]))
        · rcases V4.out with h | h
          · rw [h] at hk; exact .inl (by simp [tbS, hk])
          · rw [h] at hk; simp only [Option.some.injEq] at hk; exact .inr (by have := B3.out; omega)
      have HR := hid R
      clear R
      go_wp2_with fail
      go_meet
      first | exact HR.out | ((repeat apply Exists.intro); refine ⟨HR.out, ?_⟩; and_intros <;> rfl)
  case rest =>
    obtain ⟨v5, hT5, hJ5, ⟨D5, hO5, hM5⟩, hC5, hv5⟩ := hcut
    obtain ⟨a5, n5, c5, e5, hn5, hc5, _⟩ := hJ5.cs
    subst e5
    have T5 := hid hT5
    have J5 := hid hJ5
    have O5 := hid hO5
    have M5 := hid hM5
    have C5 := hid hC5
    have V5 := hid hv5
    have r3 := hT5.get 3 rfl
    have s3 := hT5.free 3
    rw [List.length_append, List.length_singleton] at hn5
    have hn64 : (n5 : Int) ≤ 65 := by have := HL.out; omega
    clear hT5 hJ5 hO5 hM5 hC5 hv5 K3 T3 O3 MO3 M3 C3 K2 B2 H2
    by_cases h65 : 64 < n5
    · have h65' : (64 : Int) < (n5 : Int) := by omega
      obtain ⟨x, r, exr⟩ : ∃ x r, t.over ++ [{ j with state := st }] = x :: r := by
        cases h : t.over with
        | nil => exact ⟨_, [], rfl⟩
        | cons y q => exact ⟨y, q ++ [{ j with state := st }], rfl⟩
      have hJ6 := J5.out
      rw [exr] at hJ6
      obtain ⟨v6, hr6, hJ6', hv6⟩ := jr_cut hJ6
      obtain ⟨a6, n6, c6, e6, _, _, _⟩ := hJ6'.cs
      subst e6
      have J6 := hid hJ6'
      have V6 := hid hv6
      have EXR := hid exr
      clear hJ6 hJ6' hv6 exr
      have hfin : JeEnd w B T b (.slice ao no co) (endT t j st) (wc.setCell ⟨T, 3, none⟩ (.slice a6 n6 c6)) := by
        have cS := chg_setCell wc T 3 (.slice a6 n6 c6)
        have eo : (endT t j st).over = r := by
          unfold endT overT
          simp only
          rw [if_pos (by omega), EXR.out]
          rfl
        have hvT : ∀ k, (Value.slice a6 n6 c6).ownBlock = some k → k ≠ T := fun k hk e => by
          rw [V6.out] at hk
          obtain ⟨_, _, cur, hb⟩ := J5.out.own hk
          rw [e] at hb
          exact kind_ne (show _ = some (Obj.cells _ _ (0, 0)) from hb) (show _ = some (Obj.cells _ _ (0, 0)) from T5.out) (by decide) rfl
        refine ⟨.slice a6 n6 c6, ⟨T5.out.set 3 _, ⟨D5, owns_chg O5.out cS (by simp; exact HNE.out.1.symm), M5.out⟩, ?_, ⟨(HIN.out T (by simp [tbS])).1, (HIN.out b (by simp [tbS])).1⟩, HOK.out⟩, C5.out.trans (cS.mono (by intro k hk; simp at hk; simp [tbS, hk])), fun k hk => ?_⟩
        · rw [eo]; exact J6.out.chg cS (by intro k hk hm; simp at hm; exact hvT k hk hm)
        · rw [V6.out] at hk; exact V5.out k hk
      have HFin := hid hfin
      clear hfin
      go_wp2_with (refine wpList_cutJ (.tmp 34) rfl rfl _ _ _ _ rfl hr6 ?_)
      (try simp only [Exit.inBlock, Exit.then]); refine bodyPost_end (results_none rfl _ _ _) rfl ?_
      exact ⟨rfl, HFin.out⟩
    · have h65' : ¬ ((64 : Int) < (n5 : Int)) := by omega
      have hfin : JeEnd w B T b (.slice ao no co) (endT t j st) wc := by
        have eo : (endT t j st).over = t.over ++ [{ j with state := st }] := by
          unfold endT overT
          simp only
          rw [if_neg (by omega)]
        exact ⟨.slice a5 n5 c5, ⟨T5.out, ⟨D5, O5.out, M5.out⟩, by rw [eo]; exact J5.out, ⟨(HIN.out T (by simp [tbS])).1, (HIN.out b (by simp [tbS])).1⟩, HOK.out⟩, C5.out, V5.out⟩
      have HFin := hid hfin
      clear hfin
      go_wp2_with fail
      (try simp only [Exit.inBlock, Exit.then]); refine bodyPost_end (results_none rfl _ _ _) rfl ?_
      exact ⟨rfl, HFin.out⟩
end Go.Proofs.YtombndhjoaaaiaaDoor
