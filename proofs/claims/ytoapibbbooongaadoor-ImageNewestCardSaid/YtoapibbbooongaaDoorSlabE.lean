/- The walk of a slab's flush. -/
import Derived.Test.YtoapibbbooongaaDoorSlabD
namespace Go.Proofs.YtoapibbbooongaaDoor
open Go.RowKit Go.Quad _root_.Quad.Slab

theorem wpListQ_load_row {P : Program} {w : World} {ops : Array Oper} {rest : List Oper} {o : Oper} {ac : Act} {Q : Exit → Act → World → Prop} (hgd : o.guard = none)
    (t : TypeId) (x : Operand) (ho : o.op = .load t x) (b off : Nat) (cs : List Value) (hx : ac.eval x = .pointer (some ⟨b, off, none⟩)) (hr : w.rangeAt b off cs)
    (hu : ∃ d, P.underlying t = some d ∧ d.isRow = true) (hi : (P.info? t).map (·.size) = some cs.length) (hK : wpList P ops Q rest (ac.put o.dst (.agg cs.toArray)) w) : wpList P ops Q (o :: rest) ac w :=
  wpList_plain hgd fun _ hK' => by
    obtain ⟨d, h1, h2⟩ := hu
    unfold Oper.wp execOp
    simp only [ho, hx, Sem.run_bind, run_loadAt_mid w b off t cs d hr h1 h2 hi, Result.andThen_ok, Sem.run_pure]
    exact hK' _ _ hK

theorem under_sector : ∃ d, Tryd.prog.underlying 114 = some d ∧ d.isRow = true := ⟨_, Tryd.underlying114, rfl⟩
theorem size_sector : (Tryd.prog.info? 114).map (·.size) = some 128 := by kernel_rfl

/-- one write under way, whole -/
theorem IsSlab.way_range {w : World} {B g d : Nat} {wv : Value} {s : Sl} (h : IsSlab w B g d wv s) (k : Nat) (hk : k < s.way.length) :
    ∃ b cap, wv = .slice (some ⟨b, 0, none⟩) s.way.length cap ∧ w.rangeAt b (k * 129) (wrV s.way[k]) := by
  obtain ⟨b, cap, e, h1, h2⟩ := h.way_cells k hk
  have hl := (h.ok.wsec _ (List.getElem_mem hk)).1
  obtain ⟨b', off', e', hc⟩ := CS.at h2 (by simp [hl])
  simp only [Option.some.injEq, Addr.mk.injEq] at e'
  obtain ⟨rfl, rfl, _⟩ := e'
  refine ⟨b, cap, e, fun j v hv => ?_⟩
  rcases j with _ | j
  · simp only [wrV, List.getElem?_cons_zero, Option.some.injEq] at hv
    rw [← hv]; simpa using h1
  · simp only [wrV, List.getElem?_cons_succ] at hv
    have := hc j v hv
    rw [show k * 129 + (j + 1) = k * 129 + 1 + j from by omega]
    exact this

/-- a sector is stored -/
theorem IsSlab.putSec {w w' : World} {B g d : Nat} {wv : Value} {s : Sl} (h : IsSlab w B g d wv s) (hc : Chg [d] w w') (i : Nat) (p : List UInt8) (hi : i < s.done.length) (hp : p.length = 128)
    (hB : Blk w' d (splice (s.done.flatMap bV) (i * 128) (bV p)) 114) : IsSlab w' B g d wv { s with done := s.done.set i p } := by
  have hne := h.ne
  have hs := flat_splice bV 128 s.done (bV_all h.ok) i p hi (by rw [bV_length]; exact hp)
  rw [hs] at hB
  refine ⟨?_, hB, ownsRow_chg h.way hc (fun k hk hm => by simp at hm; subst hm; exact hne.2.2 hk), ⟨?_, ?_, by simpa using h.ok.small, h.ok.wsmall, h.ok.ssmall, h.ok.asmall⟩, h.ge, h.ne⟩
  · dsimp only; rw [List.length_set]; exact h.own.keep hc (by simp; exact hne.1)
  · intro q hq
    rcases List.mem_or_eq_of_mem_set hq with hq | rfl
    · exact h.ok.sec q hq
    · exact hp
  · intro x hx
    have := h.ok.wsec x hx
    simpa using this

theorem zwrite_size : zwrite.size = 129 := by simp [zwrite, wrV, zeros]

def flD (s : Sl) (k : Nat) : List Bytes := (s.way.take k).foldl (fun d w => d.set w.1 w.2) s.done
theorem flD_zero (s : Sl) : flD s 0 = s.done := rfl
theorem flD_succ (s : Sl) (k : Nat) (hk : k < s.way.length) : flD s (k + 1) = (flD s k).set s.way[k].1 s.way[k].2 := by
  unfold flD
  rw [List.take_succ_eq_append_getElem hk, List.foldl_append]; rfl
theorem flD_length (s : Sl) : ∀ k, (flD s k).length = s.done.length := by
  intro k
  unfold flD
  generalize s.way.take k = l
  generalize s.done = d
  induction l generalizing d with
  | nil => rfl
  | cons x l ih => rw [List.foldl_cons, ih]; simp

def FlRel (s : Sl) (B g d : Nat) (wv : Value) (w : World) (iv : Value) (wr : World) : Prop :=
  ∃ k : Nat, iv = .int .i64 (k : Int) ∧ k ≤ s.way.length ∧ IsSlab wr B g d wv { s with done := flD s k } ∧ Chg (slS g d wv) w wr

theorem run_secs (w : World) (g i : Nat) (v : Value) (h : w.cell? ⟨g, i, none⟩ = some v) : (Instr.loadAt 86 (.pointer (some ⟨g, i, none⟩))).run Tryd.prog w = .ok v w := by go_simp
theorem run_int_at (w : World) (g i : Nat) (v : Value) (h : w.cell? ⟨g, i, none⟩ = some v) : (Instr.loadAt 3 (.pointer (some ⟨g, i, none⟩))).run Tryd.prog w = .ok v w := by go_simp

theorem nilflush_calls (w : World) : Calls Tryd.prog 65 #[.pointer none] w fun e w' => e = .returned (.int .i64 6) ∧ w = w' := by
  go_enter Tryd.func65, Tryd.ntmps65
  go_wp2_with fail
  go_ret
  exact ⟨rfl, rfl⟩

set_option maxRecDepth 20000 in
set_option maxHeartbeats 1000000 in
theorem flush_calls (w : World) (B g d : Nat) (wv : Value) (s : Sl) (h : IsSlab w B g d wv s) (hs : s.steps < 1000000) :
    Calls Tryd.prog 65 #[.pointer (some ⟨g, 0, none⟩)] w (SlabTo w B g d wv (flushL s).1 (flushL s).2) := by
  have c2 := h.own.get 2 rfl
  have H := hid h
  have Hs := hid hs
  clear h hs
  obtain ⟨o, ho⟩ : ∃ o, s.off = o := ⟨_, rfl⟩
  rw [ho] at c2
  have Ho := hid ho
  clear ho
  cases o
  case true =>
    have e := hid (show flushL s = (s, 13) from by unfold flushL; rw [if_pos Ho.out])
    go_enter Tryd.func65, Tryd.ntmps65
    go_wp2_with fail
    go_ret
    rw [e.out]
    exact ⟨wv, rfl, H.out, Chg.refl _ _, fun k hk => .inl (by simp [slS, hk])⟩
  case false =>
    obtain ⟨o1, ho1⟩ : ∃ o, (stepL s).off = o := ⟨_, rfl⟩
    have Ho1 := hid ho1
    have St := step_calls w B g d wv s H.out Hs.out
    rw [ho1] at St
    have Stx := hid St
    clear ho1 St
    cases o1
    case true =>
      have e := hid (show flushL s = (stepL s, 13) from by unfold flushL; rw [if_neg (by rw [Ho.out]; simp), if_pos Ho1.out])
      go_enter Tryd.func65, Tryd.ntmps65
      go_wp2_with fail
      refine Stx.out.mono ?_
      rintro e w1 ⟨rfl, h1, hc1⟩
      have F := hid (And.intro h1 hc1)
      clear h1 hc1
      go_wp2_with fail
      go_ret
      rw [e.out]
      exact ⟨wv, rfl, F.out.1, F.out.2.mono (by simp [slS]), fun k hk => .inl (by simp [slS, hk])⟩
    case false =>
      have e := hid (show flushL s = ({ stepL s with done := flD (stepL s) (stepL s).way.length, way := [] }, 0) from by
        unfold flushL; rw [if_neg (by rw [Ho.out]; simp), if_neg (by rw [Ho1.out]; simp)]; unfold flD; rw [List.take_length]; rfl)
      generalize stepL s = s1 at e Stx
      clear c2
      go_enter Tryd.func65, Tryd.ntmps65
      have c2 := H.out.own.get 2 rfl
      rw [Ho.out] at c2
      go_wp2_with fail
      refine Stx.out.mono ?_
      rintro e w1 ⟨rfl, h1, hc1⟩
      obtain ⟨wa, wc, e1, hwle, _⟩ := ownsRow_cs h1.way
      have c1 := h1.own.get 1 rfl
      rw [e1] at c1
      have E1 := hid e1
      have H1 := hid h1
      have hwsm := h1.ok.wsmall
      have hdsm := h1.ok.small
      have hlen : (s1.way.length : Int) ≤ 1000000 := by omega
      have Hc1 := hid (hc1.mono (T := slS g d wv) (by simp [slS]))
      clear h1 hc1 e1 c2
      go_wp2_with fail
      clear c1
      go_loopw [23] (fun iv wr => FlRel s1 B g d wv w iv wr) (fun iv _ => s1.way.length - (intOf iv).toNat)
      case atStart => exact ⟨0, rfl, Nat.zero_le _, by rw [flD_zero]; exact H1.out, Hc1.out⟩
      case round =>
        obtain ⟨k, rfl, hk, hsl, hcw⟩ := hrel
        have S := hid hsl
        have Cw := hid hcw
        clear hsl hcw
        by_cases hkn : k < s1.way.length
        · have hkn' : (k : Int) < (s1.way.length : Int) := by omega
          obtain ⟨b, cap, e2, hr⟩ := S.out.way_range k hkn
          have e3 := E1.out.symm.trans e2
          simp only [Value.slice.injEq] at e3
          obtain ⟨rfl, _, rfl⟩ := e3
          have hx := (S.out.ok.wsec _ (List.getElem_mem (l := s1.way) (n := k) hkn))
          have hfs := hid (flD_succ s1 k hkn)
          dsimp only at hr
          generalize s1.way[k] = x at hr hx hfs
          obtain ⟨at', p⟩ := x
          have hl129 : (wrV (at', p)).length = 129 := wrV_length _ hx.1
          have Hx := hid hx
          have Hr := hid hr
          have Hl := hid hl129
          clear hx hr e2 hl129
          go_upto_region 8 with (first | (refine wpListQ_load_row rfl 116 (.tmp 25) rfl b (k * 129) (wrV (at', p)) rfl Hr.out under_write (by rw [Hl.out]; exact size_write) ?_) | (refine wpListQ_alloc 116 rfl rfl _ _ info_write ?_) | (refine wpListQ_store_new rfl 116 (.tmp 4) (.tmp 26) rfl zwrite (wrV (at', p)).toArray rfl rfl (by rw [size_write]; simp [Hl.out]) (by rw [zwrite_size]; simp [Hl.out]) (all_oneCell_toArray (wrV_one _)) ?_))
          simp only [Act.put, List.setIfInBounds_toArray, List.set_cons_succ, List.set_cons_zero]
          have Bq : Kept (Blk (wr.alloc (.cells (wrV (at', p)).toArray 116)) wr.heap.size (wrV (at', p)) 116) := ⟨blk_alloc wr _ _⟩
          have S1 := hid (S.out.below (below_alloc wr (.cells (wrV (at', p)).toArray 116)))
          have hb3 := hid (below_alloc wr (.cells (wrV (at', p)).toArray 116))
          generalize wr.alloc (.cells (wrV (at', p)).toArray 116) = w3 at Bq S1 hb3 ⊢
          have hdl : at' < s1.done.length := by simpa [flD_length] using Hx.out.2
          have Hdl := hid hdl
          have dl : (flD s1 k).length = s1.done.length := flD_length _ _
          have hat : (at' : Int) < (s1.done.length : Int) := by omega
          clear hdl
          refine wp_region_chg 8 9 [] (fun i v w' => match i with
            | 0 | 1 => v = .pointer (some ⟨g, 0, none⟩)
            | 2 => v = .pointer (some ⟨g, 0, none⟩)
            | 3 => v = .slice (some ⟨d, 0, none⟩) s1.done.length s1.done.length
            | 4 => v = .pointer (some ⟨wr.heap.size, 0, none⟩)
            | 5 => v = .int .i64 (at' : Int)
            | 6 => v = .pointer (some ⟨wr.heap.size, 1, none⟩)
            | 7 => v = .agg (bV p).toArray
            | 8 => v = .pointer (some ⟨d, at' * 128, none⟩)
            | _ => True) (by kernel_rfl) (by kernel_rfl) (by kernel_rfl) ?_ ?_ ?_ ?_
          · intro j v w4 w5 hR hb
            match j, hR with
            | 0, hR | 1, hR | 2, hR | 3, hR | 4, hR | 5, hR | 6, hR | 7, hR | 8, hR => exact hR
            | _ + 9, _ => trivial
          · intro j v w4 w5 hne hR hb
            match j, hR with
            | 0, hR | 1, hR | 2, hR | 3, hR | 4, hR | 5, hR | 6, hR | 7, hR | 8, hR => exact hR
            | _ + 9, _ => trivial
          · refine ⟨?_, ?_, ?_, ?_, ?_, ?_, ?_, ?_, ?_, trivial⟩
            all_goals intro ρ w4 hE hc hg hf
            all_goals have hE : Chg [] w3.drew w4 := hE
            · intro h0; exact opOk_move _ rfl ⟨Below.refl _ _, h0⟩
            · intro (h0 : ρ (.tmp 27) = .pointer (some ⟨g, 0, none⟩))
              exact opOk_run (v := .pointer (some ⟨g, 0, none⟩)) (w' := w4) (by go_simp) ⟨Below.refl _ _, rfl⟩
            · intro (h0 : ρ (.tmp 28) = .pointer (some ⟨g, 0, none⟩))
              exact opOk_run (v := .pointer (some ⟨g, 0, none⟩)) (w' := w4) (by go_simp) ⟨Below.refl _ _, rfl⟩
            · intro (h0 : ρ (.tmp 29) = .pointer (some ⟨g, 0, none⟩))
              have c := ((S1.out.own.below (below_drew _)).keep hE (by simp)).get 0 rfl
              rw [dl] at c
              exact opOk_load _ _ rfl _ _ h0 (run_secs _ _ _ _ c) ⟨Below.refl _ _, rfl⟩
            · intro (h0 : ρ (.tmp 4) = .pointer (some ⟨wr.heap.size, 0, none⟩))
              exact opOk_run (v := .pointer (some ⟨wr.heap.size, 0, none⟩)) (w' := w4) (by go_simp) ⟨Below.refl _ _, rfl⟩
            · intro (h0 : ρ (.tmp 31) = .pointer (some ⟨wr.heap.size, 0, none⟩))
              have c := ((Bq.out.below (below_drew _)).keep hE (by simp)).get 0 rfl
              exact opOk_load _ _ rfl _ _ h0 (run_int_at _ _ _ _ c) ⟨Below.refl _ _, rfl⟩
            · intro (h0 : ρ (.tmp 4) = .pointer (some ⟨wr.heap.size, 0, none⟩))
              exact opOk_run (v := .pointer (some ⟨wr.heap.size, 1, none⟩)) (w' := w4) (by go_simp) ⟨Below.refl _ _, rfl⟩
            · intro (h0 : ρ (.tmp 33) = .pointer (some ⟨wr.heap.size, 1, none⟩))
              have hB := (Bq.out.below (below_drew _)).keep hE (by simp)
              refine opOk_load_row _ _ rfl wr.heap.size 1 (bV p) h0 (fun j v hv => ?_) under_sector (by rw [bV_length, Hx.out.1]; exact size_sector) ⟨Below.refl _ _, rfl⟩
              rw [hB.cell, Nat.add_comm 1 j]
              exact hv
            · intro (h0 : ρ (.tmp 30) = .slice (some ⟨d, 0, none⟩) s1.done.length s1.done.length) (h1 : ρ (.tmp 32) = .int .i64 (at' : Int))
              exact opOk_run (v := .pointer (some ⟨d, at' * 128, none⟩)) (w' := w4) (by go_simp) ⟨Below.refl _ _, rfl⟩
          · intro w4 hE
            rintro _ rfl _ rfl _ rfl _ rfl _ rfl _ rfl _ rfl _ rfl _ rfl
            simp only [PutLast, Act.put, List.setIfInBounds_toArray, List.set_cons_succ, List.set_cons_zero]
            have S4 := (S1.out.below (below_drew _)).chg hE (by simp)
            have hp := Hx.out.1
            have hfit : at' * 128 + (bV p).length ≤ ((flD s1 k).flatMap bV).length := by
              rw [flat_lengthM bV 128 _ (bV_all S4.ok), bV_length, hp]
              dsimp only
              rw [dl]
              have := Hdl.out
              have : (at' + 1) * 128 ≤ s1.done.length * 128 := Nat.mul_le_mul_right _ this
              omega
            refine opOk_store_row 114 (.tmp 35) (.tmp 34) rfl d (at' * 128) (bV p) ((flD s1 k).flatMap bV) 114 rfl rfl S4.don hfit (by rw [bV_length, hp]; exact size_sector) (oneCell_u8v p) ?_
            intro hB hch
            have S5 := hid (S4.putSec hch at' p (by dsimp only; rw [dl]; exact Hdl.out) hp hB)
            have C5 := hid (((((Cw.out.trans (Chg.of_below _ (hb3.out.trans ((below_drew w3).mono hb3.out.size)))).trans (hE.mono (by simp))).trans (hch.mono (T := slS g d wv) (by simp [slS])))))
            clear hfit S4 hch hB
            go_wp2_with fail
            have R : FlRel s1 B g d wv w (.int .i64 ((k : Int) + 1)) (w4.setCells d (at' * 128) (bV p)) := ⟨k + 1, by go_num, by omega, by rw [hfs.out]; exact S5.out, C5.out⟩
            refine ⟨?_, by simp [intOf]; omega⟩
            first | exact R | ((repeat apply Exists.intro); refine ⟨R, ?_⟩; and_intros <;> rfl)
        · obtain rfl : k = s1.way.length := by omega
          have hkn' : ¬ ((s1.way.length : Int) < (s1.way.length : Int)) := by omega
          have c1 := S.out.own.get 1 rfl
          have f1 := S.out.own.free 1
          have hch : Chg [g] wr (wr.setCell ⟨g, 1, none⟩ (.slice none 0 0)) := chg_setCell wr g 1 _
          have hne := S.out.ne
          have hB := S.out.own.set 1 (.slice none 0 0)
          simp only [List.set_cons_succ, List.set_cons_zero] at hB
          have F : Kept (IsSlab (wr.setCell ⟨g, 1, none⟩ (.slice none 0 0)) B g d (.slice none 0 0) { s1 with done := flD s1 s1.way.length, way := [] }) := by
            refine ⟨⟨hB, S.out.don.keep hch (by simp; exact fun e => hne.1 e.symm), World.ownsRow_nil _ _ _ _, ⟨S.out.ok.sec, by simp, S.out.ok.small, by simp, S.out.ok.ssmall, S.out.ok.asmall⟩, S.out.ge, hne.1, by simp [Value.ownBlock], by simp [Value.ownBlock]⟩⟩
          have C := hid (Cw.out.trans (hch.mono (T := slS g d wv) (by simp [slS])))
          clear hch hne hB
          go_wp2_with fail
          go_ret
          rw [e.out]
          exact ⟨_, rfl, F.out, C.out, by simp [Value.ownBlock]⟩
end Go.Proofs.YtoapibbbooongaaDoor
