/- The walk of a slab's flush. (Several texts in one: SlabE, SlabF, SlabG, SlabOps.) -/
import Derived.Test.YtoapibbbooongaaDoorSlabMath
import Derived.Test.YtoapibbbooongaaDoorLib

/- The walk of a slab's flush. -/
namespace Go.Proofs.YtoapibbbooongaaDoor
open Go.RowKit Go.Quad _root_.Quad.Slab

theorem wpListQ_load_row {P : Program} {w : World} {ops : Array Oper} {rest : List Oper} {o : Oper} {ac : Act} {Q : Exit → Act → World → Prop} (hgd : o.guard = none)
    (t : TypeId) (x : Operand) (ho : o.op = .load t x) (b off : Nat) (cs : List Value) (hx : ac.eval x = .pointer (some ⟨b, off, none⟩)) (hr : w.rangeAt b off cs)
    (hu : ∃ d, P.underlying t = some d ∧ d.isRow = true) (hi : (P.info? t).map (·.size) = some cs.length) (hK : wpList P ops Q rest (ac.put o.dst (.agg cs.toArray)) w) : wpList P ops Q (o :: rest) ac w :=
  wpList_plain hgd fun _ hK' => by
    obtain ⟨d, h1, h2⟩ := hu
    unfold Oper.wp execOp
    simp only [ho, hx, Sem.run_bind, run_loadAt_mid w b off t cs d hr h1 h2 hi, Result.andThen_ok, Sem.run_pure]
    exact hK' _ _ hK

theorem under_sector : ∃ d, Tryd.prog.underlying 114 = some d ∧ d.isRow = true := ⟨_, Tryd.underlying114, rfl⟩
theorem size_sector : (Tryd.prog.info? 114).map (·.size) = some 128 := by kernel_rfl

/-- one write under way, whole -/
theorem IsSlab.way_range {w : World} {B g d : Nat} {wv : Value} {s : Sl} (h : IsSlab w B g d wv s) (k : Nat) (hk : k < s.way.length) :
    ∃ b cap, wv = .slice (some ⟨b, 0, none⟩) s.way.length cap ∧ w.rangeAt b (k * 129) (wrV s.way[k]) := by
  obtain ⟨b, cap, e, h1, h2⟩ := h.way_cells k hk
  have hl := (h.ok.wsec _ (List.getElem_mem hk)).1
  obtain ⟨b', off', e', hc⟩ := CS.at h2 (by simp [hl])
  simp only [Option.some.injEq, Addr.mk.injEq] at e'
  obtain ⟨rfl, rfl, _⟩ := e'
  refine ⟨b, cap, e, fun j v hv => ?_⟩
  rcases j with _ | j
  · simp only [wrV, List.getElem?_cons_zero, Option.some.injEq] at hv
    rw [← hv]; simpa using h1
  · simp only [wrV, List.getElem?_cons_succ] at hv
    have := hc j v hv
    rw [show k * 129 + (j + 1) = k * 129 + 1 + j from by omega]
    exact this

/-- a sector is stored -/
theorem IsSlab.putSec {w w' : World} {B g d : Nat} {wv : Value} {s : Sl} (h : IsSlab w B g d wv s) (hc : Chg [d] w w') (i : Nat) (p : List UInt8) (hi : i < s.done.length) (hp : p.length = 128)
    (hB : Blk w' d (splice (s.done.flatMap bV) (i * 128) (bV p)) 114) : IsSlab w' B g d wv { s with done := s.done.set i p } := by
  have hne := h.ne
  have hs := flat_splice bV 128 s.done (bV_all h.ok) i p hi (by rw [bV_length]; exact hp)
  rw [hs] at hB
  refine ⟨?_, hB, ownsRow_chg h.way hc (fun k hk hm => by simp at hm; subst hm; exact hne.2.2 hk), ⟨?_, ?_, by simpa using h.ok.small, h.ok.wsmall, h.ok.ssmall, h.ok.asmall⟩, h.ge, h.ne⟩
  · dsimp only; rw [List.length_set]; exact h.own.keep hc (by simp; exact hne.1)
  · intro q hq
    rcases List.mem_or_eq_of_mem_set hq with hq | rfl
    · exact h.ok.sec q hq
    · exact hp
  · intro x hx
    have := h.ok.wsec x hx
    simpa using this

theorem zwrite_size : zwrite.size = 129 := by simp [zwrite, wrV, zeros]

def flD (s : Sl) (k : Nat) : List Bytes := (s.way.take k).foldl (fun d w => d.set w.1 w.2) s.done
theorem flD_zero (s : Sl) : flD s 0 = s.done := rfl
theorem flD_succ (s : Sl) (k : Nat) (hk : k < s.way.length) : flD s (k + 1) = (flD s k).set s.way[k].1 s.way[k].2 := by
  unfold flD
  rw [List.take_succ_eq_append_getElem hk, List.foldl_append]; rfl
theorem flD_length (s : Sl) : ∀ k, (flD s k).length = s.done.length := by
  intro k
  unfold flD
  generalize s.way.take k = l
  generalize s.done = d
  induction l generalizing d with
  | nil => rfl
  | cons x l ih => rw [List.foldl_cons, ih]; simp

def FlRel (s : Sl) (B g d : Nat) (wv : Value) (w : World) (iv : Value) (wr : World) : Prop :=
  ∃ k : Nat, iv = .int .i64 (k : Int) ∧ k ≤ s.way.length ∧ IsSlab wr B g d wv { s with done := flD s k } ∧ Chg (slS g d wv) w wr

theorem run_secs (w : World) (g i : Nat) (v : Value) (h : w.cell? ⟨g, i, none⟩ = some v) : (Instr.loadAt 86 (.pointer (some ⟨g, i, none⟩))).run Tryd.prog w = .ok v w := by go_simp
theorem run_int_at (w : World) (g i : Nat) (v : Value) (h : w.cell? ⟨g, i, none⟩ = some v) : (Instr.loadAt 3 (.pointer (some ⟨g, i, none⟩))).run Tryd.prog w = .ok v w := by go_simp

theorem nilflush_calls (w : World) : Calls Tryd.prog 65 #[.pointer none] w fun e w' => e = .returned (.int .i64 6) ∧ w = w' := by
  go_enter Tryd.func65, Tryd.ntmps65
  go_wp2_with fail
  go_ret
  exact ⟨rfl, rfl⟩

set_option maxRecDepth 20000 in
set_option maxHeartbeats 1000000 in
theorem flush_calls (w : World) (B g d : Nat) (wv : Value) (s : Sl) (h : IsSlab w B g d wv s) (hs : s.steps < 1000000) :
    Calls Tryd.prog 65 #[.pointer (some ⟨g, 0, none⟩)] w (SlabTo w B g d wv (flushL s).1 (flushL s).2) := by
  have c2 := h.own.get 2 rfl
  have H := hid h
  have Hs := hid hs
  clear h hs
  obtain ⟨o, ho⟩ : ∃ o, s.off = o := ⟨_, rfl⟩
  rw [ho] at c2
  have Ho := hid ho
  clear ho
  cases o
  case true =>
    have e := hid (show flushL s = (s, 13) from by unfold flushL; rw [if_pos Ho.out])
    go_enter Tryd.func65, Tryd.ntmps65
    go_wp2_with fail
    go_ret
    rw [e.out]
    exact ⟨wv, rfl, H.out, Chg.refl _ _, fun k hk => .inl (by simp [slS, hk])⟩
  case false =>
    obtain ⟨o1, ho1⟩ : ∃ o, (stepL s).off = o := ⟨_, rfl⟩
    have Ho1 := hid ho1
    have St := step_calls w B g d wv s H.out Hs.out
    rw [ho1] at St
    have Stx := hid St
    clear ho1 St
    cases o1
    case true =>
      have e := hid (show flushL s = (stepL s, 13) from by unfold flushL; rw [if_neg (by rw [Ho.out]; simp), if_pos Ho1.out])
      go_enter Tryd.func65, Tryd.ntmps65
      go_wp2_with fail
      refine Stx.out.mono ?_
      rintro e w1 ⟨rfl, h1, hc1⟩
      have F := hid (And.intro h1 hc1)
      clear h1 hc1
      go_wp2_with fail
      go_ret
      rw [e.out]
      exact ⟨wv, rfl, F.out.1, F.out.2.mono (by simp [slS]), fun k hk => .inl (by simp [slS, hk])⟩
    case false =>
      have e := hid (show flushL s = ({ stepL s with done := flD (stepL s) (stepL s).way.length, way := [] }, 0) from by
        unfold flushL; rw [if_neg (by rw [Ho.out]; simp), if_neg (by rw [Ho1.out]; simp)]; unfold flD; rw [List.take_length]; rfl)
      generalize stepL s = s1 at e Stx
      clear c2
      go_enter Tryd.func65, Tryd.ntmps65
      have c2 := H.out.own.get 2 rfl
      rw [Ho.out] at c2
      go_wp2_with fail
      refine Stx.out.mono ?_
      rintro e w1 ⟨rfl, h1, hc1⟩
      obtain ⟨wa, wc, e1, hwle, _⟩ := ownsRow_cs h1.way
      have c1 := h1.own.get 1 rfl
      rw [e1] at c1
      have E1 := hid e1
      have H1 := hid h1
      have hwsm := h1.ok.wsmall
      have hdsm := h1.ok.small
      have hlen : (s1.way.length : Int) ≤ 1000000 := by omega
      have Hc1 := hid (hc1.mono (T := slS g d wv) (by simp [slS]))
      clear h1 hc1 e1 c2
      go_wp2_with fail
      clear c1
      go_loopw [23] (fun iv wr => FlRel s1 B g d wv w iv wr) (fun iv _ => s1.way.length - (intOf iv).toNat)
      case atStart => exact ⟨0, rfl, Nat.zero_le _, by rw [flD_zero]; exact H1.out, Hc1.out⟩
      case round =>
        obtain ⟨k, rfl, hk, hsl, hcw⟩ := hrel
        have S := hid hsl
        have Cw := hid hcw
        clear hsl hcw
        by_cases hkn : k < s1.way.length
        · have hkn' : (k : Int) < (s1.way.length : Int) := by omega
          obtain ⟨b, cap, e2, hr⟩ := S.out.way_range k hkn
          have e3 := E1.out.symm.trans e2
          simp only [Value.slice.injEq] at e3
          obtain ⟨rfl, _, rfl⟩ := e3
          have hx := (S.out.ok.wsec _ (List.getElem_mem (l := s1.way) (n := k) hkn))
          have hfs := hid (flD_succ s1 k hkn)
          dsimp only at hr
          generalize s1.way[k] = x at hr hx hfs
          obtain ⟨at', p⟩ := x
          have hl129 : (wrV (at', p)).length = 129 := wrV_length _ hx.1
          have Hx := hid hx
          have Hr := hid hr
          have Hl := hid hl129
          clear hx hr e2 hl129
          go_upto_region 8 with (first | (refine wpListQ_load_row rfl 116 (.tmp 25) rfl b (k * 129) (wrV (at', p)) rfl Hr.out under_write (by rw [Hl.out]; exact size_write) ?_) | (refine wpListQ_alloc 116 rfl rfl _ _ info_write ?_) | (refine wpListQ_store_new rfl 116 (.tmp 4) (.tmp 26) rfl zwrite (wrV (at', p)).toArray rfl rfl (by rw [size_write]; simp [Hl.out]) (by rw [zwrite_size]; simp [Hl.out]) (all_oneCell_toArray (wrV_one _)) ?_))
          simp only [Act.put, List.setIfInBounds_toArray, List.set_cons_succ, List.set_cons_zero]
          have Bq : Kept (Blk (wr.alloc (.cells (wrV (at', p)).toArray 116)) wr.heap.size (wrV (at', p)) 116) := ⟨blk_alloc wr _ _⟩
          have S1 := hid (S.out.below (below_alloc wr (.cells (wrV (at', p)).toArray 116)))
          have hb3 := hid (below_alloc wr (.cells (wrV (at', p)).toArray 116))
          generalize wr.alloc (.cells (wrV (at', p)).toArray 116) = w3 at Bq S1 hb3 ⊢
          have hdl : at' < s1.done.length := by simpa [flD_length] using Hx.out.2
          have Hdl := hid hdl
          have dl : (flD s1 k).length = s1.done.length := flD_length _ _
          have hat : (at' : Int) < (s1.done.length : Int) := by omega
          clear hdl
          refine wp_region_chg 8 9 [] (fun i v w' => match i with
            | 0 | 1 => v = .pointer (some ⟨g, 0, none⟩)
            | 2 => v = .pointer (some ⟨g, 0, none⟩)
            | 3 => v = .slice (some ⟨d, 0, none⟩) s1.done.length s1.done.length
            | 4 => v = .pointer (some ⟨wr.heap.size, 0, none⟩)
            | 5 => v = .int .i64 (at' : Int)
            | 6 => v = .pointer (some ⟨wr.heap.size, 1, none⟩)
            | 7 => v = .agg (bV p).toArray
            | 8 => v = .pointer (some ⟨d, at' * 128, none⟩)
            | _ => True) (by kernel_rfl) (by kernel_rfl) (by kernel_rfl) ?_ ?_ ?_ ?_
          · intro j v w4 w5 hR hb
            match j, hR with
            | 0, hR | 1, hR | 2, hR | 3, hR | 4, hR | 5, hR | 6, hR | 7, hR | 8, hR => exact hR
            | _ + 9, _ => trivial
          · intro j v w4 w5 hne hR hb
            match j, hR with
            | 0, hR | 1, hR | 2, hR | 3, hR | 4, hR | 5, hR | 6, hR | 7, hR | 8, hR => exact hR
            | _ + 9, _ => trivial
          · refine ⟨?_, ?_, ?_, ?_, ?_, ?_, ?_, ?_, ?_, trivial⟩
            all_goals intro ρ w4 hE hc hg hf
            all_goals have hE : Chg [] w3.drew w4 := hE
            · intro h0; exact opOk_move _ rfl ⟨Below.refl _ _, h0⟩
            · intro (h0 : ρ (.tmp 27) = .pointer (some ⟨g, 0, none⟩))
              exact opOk_run (v := .pointer (some ⟨g, 0, none⟩)) (w' := w4) (by go_simp) ⟨Below.refl _ _, rfl⟩
            · intro (h0 : ρ (.tmp 28) = .pointer (some ⟨g, 0, none⟩))
              exact opOk_run (v := .pointer (some ⟨g, 0, none⟩)) (w' := w4) (by go_simp) ⟨Below.refl _ _, rfl⟩
            · intro (h0 : ρ (.tmp 29) = .pointer (some ⟨g, 0, none⟩))
              have c := ((S1.out.own.below (below_drew _)).keep hE (by simp)).get 0 rfl
              rw [dl] at c
              exact opOk_load _ _ rfl _ _ h0 (run_secs _ _ _ _ c) ⟨Below.refl _ _, rfl⟩
            · intro (h0 : ρ (.tmp 4) = .pointer (some ⟨wr.heap.size, 0, none⟩))
              exact opOk_run (v := .pointer (some ⟨wr.heap.size, 0, none⟩)) (w' := w4) (by go_simp) ⟨Below.refl _ _, rfl⟩
            · intro (h0 : ρ (.tmp 31) = .pointer (some ⟨wr.heap.size, 0, none⟩))
              have c := ((Bq.out.below (below_drew _)).keep hE (by simp)).get 0 rfl
              exact opOk_load _ _ rfl _ _ h0 (run_int_at _ _ _ _ c) ⟨Below.refl _ _, rfl⟩
            · intro (h0 : ρ (.tmp 4) = .pointer (some ⟨wr.heap.size, 0, none⟩))
              exact opOk_run (v := .pointer (some ⟨wr.heap.size, 1, none⟩)) (w' := w4) (by go_simp) ⟨Below.refl _ _, rfl⟩
            · intro (h0 : ρ (.tmp 33) = .pointer (some ⟨wr.heap.size, 1, none⟩))
              have hB := (Bq.out.below (below_drew _)).keep hE (by simp)
              refine opOk_load_row _ _ rfl wr.heap.size 1 (bV p) h0 (fun j v hv => ?_) under_sector (by rw [bV_length, Hx.out.1]; exact size_sector) ⟨Below.refl _ _, rfl⟩
              rw [hB.cell, Nat.add_comm 1 j]
              exact hv
            · intro (h0 : ρ (.tmp 30) = .slice (some ⟨d, 0, none⟩) s1.done.length s1.done.length) (h1 : ρ (.tmp 32) = .int .i64 (at' : Int))
              exact opOk_run (v := .pointer (some ⟨d, at' * 128, none⟩)) (w' := w4) (by go_simp) ⟨Below.refl _ _, rfl⟩
          · intro w4 hE
            rintro _ rfl _ rfl _ rfl _ rfl _ rfl _ rfl _ rfl _ rfl _ rfl
            simp only [PutLast, Act.put, List.setIfInBounds_toArray, List.set_cons_succ, List.set_cons_zero]
            have S4 := (S1.out.below (below_drew _)).chg hE (by simp)
            have hp := Hx.out.1
            have hfit : at' * 128 + (bV p).length ≤ ((flD s1 k).flatMap bV).length := by
              rw [flat_lengthM bV 128 _ (bV_all S4.ok), bV_length, hp]
              dsimp only
              rw [dl]
              have := Hdl.out
              have : (at' + 1) * 128 ≤ s1.done.length * 128 := Nat.mul_le_mul_right _ this
              omega
            refine opOk_store_row 114 (.tmp 35) (.tmp 34) rfl d (at' * 128) (bV p) ((flD s1 k).flatMap bV) 114 rfl rfl S4.don hfit (by rw [bV_length, hp]; exact size_sector) (oneCell_u8v p) ?_
            intro hB hch
            have S5 := hid (S4.putSec hch at' p (by dsimp only; rw [dl]; exact Hdl.out) hp hB)
            have C5 := hid (((((Cw.out.trans (Chg.of_below _ (hb3.out.trans ((below_drew w3).mono hb3.out.size)))).trans (hE.mono (by simp))).trans (hch.mono (T := slS g d wv) (by simp [slS])))))
            clear hfit S4 hch hB
            go_wp2_with fail
            have R : FlRel s1 B g d wv w (.int .i64 ((k : Int) + 1)) (w4.setCells d (at' * 128) (bV p)) := ⟨k + 1, by go_num, by omega, by rw [hfs.out]; exact S5.out, C5.out⟩
            refine ⟨?_, by simp [intOf]; omega⟩
            first | exact R | ((repeat apply Exists.intro); refine ⟨R, ?_⟩; and_intros <;> rfl)
        · obtain rfl : k = s1.way.length := by omega
          have hkn' : ¬ ((s1.way.length : Int) < (s1.way.length : Int)) := by omega
          have c1 := S.out.own.get 1 rfl
          have f1 := S.out.own.free 1
          have hch : Chg [g] wr (wr.setCell ⟨g, 1, none⟩ (.slice none 0 0)) := chg_setCell wr g 1 _
          have hne := S.out.ne
          have hB := S.out.own.set 1 (.slice none 0 0)
          simp only [List.set_cons_succ, List.set_cons_zero] at hB
          have F : Kept (IsSlab (wr.setCell ⟨g, 1, none⟩ (.slice none 0 0)) B g d (.slice none 0 0) { s1 with done := flD s1 s1.way.length, way := [] }) := by
            refine ⟨⟨hB, S.out.don.keep hch (by simp; exact fun e => hne.1 e.symm), World.ownsRow_nil _ _ _ _, ⟨S.out.ok.sec, by simp, S.out.ok.small, by simp, S.out.ok.ssmall, S.out.ok.asmall⟩, S.out.ge, hne.1, by simp [Value.ownBlock], by simp [Value.ownBlock]⟩⟩
          have C := hid (Cw.out.trans (hch.mono (T := slS g d wv) (by simp [slS])))
          clear hch hne hB
          go_wp2_with fail
          go_ret
          rw [e.out]
          exact ⟨_, rfl, F.out, C.out, by simp [Value.ownBlock]⟩
end Go.Proofs.YtoapibbbooongaaDoor

/- The walk of a slab's crash. -/
namespace Go.Proofs.YtoapibbbooongaaDoor
open Go.RowKit Go.Quad _root_.Quad.Slab

theorem flat_splice_in {α : Type} (f : α → List Value) (sz : Nat) : ∀ (l : List α), (∀ x ∈ l, (f x).length = sz) → ∀ (i o : Nat) (x x' : α) (vs : List Value), l[i]? = some x → o + vs.length ≤ sz → f x' = splice (f x) o vs → splice (l.flatMap f) (i * sz + o) vs = (l.set i x').flatMap f
  | [], _, i, o, x, x', vs, h, _, _ => by simp at h
  | y :: l, hf, 0, o, x, x', vs, h, ho, he => by
    have hy := hf y (List.mem_cons_self ..)
    simp only [List.getElem?_cons_zero, Option.some.injEq] at h
    subst h
    rw [List.set_cons_zero, List.flatMap_cons, List.flatMap_cons, he, Nat.zero_mul, Nat.zero_add]
    unfold splice
    rw [List.take_append_of_le_length (by omega), List.drop_append_of_le_length (by omega)]
    simp
  | y :: l, hf, i + 1, o, x, x', vs, h, ho, he => by
    have hy := hf y (List.mem_cons_self ..)
    have ih := flat_splice_in f sz l (fun z hz => hf z (List.mem_cons_of_mem _ hz)) i o x x' vs (by simpa using h) ho he
    rw [List.set_cons_succ, List.flatMap_cons, List.flatMap_cons, ← ih]
    unfold splice
    rw [List.take_append, List.drop_append, List.take_of_length_le (by rw [hy, Nat.add_mul]; omega), List.drop_eq_nil_of_le (by rw [hy, Nat.add_mul]; omega), hy, List.nil_append, List.append_assoc]
    congr 4
    · rw [Nat.add_mul]; omega
    · rw [Nat.add_mul]; omega

/-- a part of a sector is stored -/
theorem IsSlab.putPart {w w' : World} {B g d : Nat} {wv : Value} {s : Sl} (h : IsSlab w B g d wv s) (hc : Chg [d] w w') (i o : Nat) (p xs : List UInt8) (hi : i < s.done.length) (ho : o + xs.length ≤ 128)
    (hp : p = (s.done[i]).take o ++ xs ++ (s.done[i]).drop (o + xs.length)) (hB : Blk w' d (splice (s.done.flatMap bV) (i * 128 + o) (xs.map u8v)) 114) : IsSlab w' B g d wv { s with done := s.done.set i p } := by
  have hne := h.ne
  have hl := h.ok.sec _ (List.getElem_mem hi)
  have hp' : p.length = 128 := by rw [hp]; simp [hl]; omega
  have hs := flat_splice_in bV 128 s.done (bV_all h.ok) i o s.done[i] p (xs.map u8v) (List.getElem?_eq_getElem hi) (by simpa using ho) (by
    rw [hp]; unfold splice bV; simp only [List.map_append, List.map_take, List.map_drop, List.length_map, List.append_assoc])
  rw [hs] at hB
  refine ⟨?_, hB, ownsRow_chg h.way hc (fun k hk hm => by simp at hm; subst hm; exact hne.2.2 hk), ⟨?_, ?_, by simpa using h.ok.small, h.ok.wsmall, h.ok.ssmall, h.ok.asmall⟩, h.ge, h.ne⟩
  · dsimp only; rw [List.length_set]; exact h.own.keep hc (by simp; exact hne.1)
  · intro q hq
    rcases List.mem_or_eq_of_mem_set hq with hq | rfl
    · exact h.ok.sec q hq
    · exact hp'
  · intro x hx
    have := h.ok.wsec x hx
    simpa using this

theorem crashD_snoc (fates : Bytes) (c : Nat) : ∀ (l : List (Nat × Bytes)) (j : Nat) (x : Nat × Bytes) (D : List Bytes), crashD fates c j (l ++ [x]) D = (crashD fates c j l D).set x.1 (torn (fateOf fates (j + l.length)) c ((crashD fates c j l D).getD x.1 []) x.2)
  | [], j, x, D => by simp [crashD]
  | y :: l, j, x, D => by
    rw [List.cons_append]
    unfold crashD
    rw [crashD_snoc fates c l (j + 1) x, List.length_cons, show j + 1 + l.length = j + (l.length + 1) from by omega]
theorem crashD_length (fates : Bytes) (c : Nat) : ∀ (l : List (Nat × Bytes)) (j : Nat) (D : List Bytes), (crashD fates c j l D).length = D.length
  | [], _, _ => rfl
  | y :: l, j, D => by unfold crashD; rw [crashD_length]; simp

def crD (fates : Bytes) (c : Nat) (s : Sl) (k : Nat) : List Bytes := crashD fates c 0 (s.way.take k) s.done
theorem crD_succ (fates : Bytes) (c : Nat) (s : Sl) (k : Nat) (hk : k < s.way.length) : crD fates c s (k + 1) = (crD fates c s k).set s.way[k].1 (torn (fateOf fates k) c ((crD fates c s k).getD s.way[k].1 []) s.way[k].2) := by
  unfold crD
  rw [List.take_succ_eq_append_getElem hk, crashD_snoc, Nat.zero_add, List.length_take, Nat.min_eq_left (Nat.le_of_lt hk)]
theorem crD_length (fates : Bytes) (c : Nat) (s : Sl) (k : Nat) : (crD fates c s k).length = s.done.length := crashD_length _ _ _ _ _

def CrRel (fates : Bytes) (c : Nat) (s : Sl) (B g d : Nat) (wv : Value) (w : World) (iv : Value) (wr : World) : Prop :=
  ∃ k : Nat, iv = .int .i64 (k : Int) ∧ k ≤ s.way.length ∧ IsSlab wr B g d wv { s with done := crD fates c s k } ∧ Chg (slS g d wv) w wr

theorem nilcrash_calls (w : World) (v : Value) (n : Int) : Calls Tryd.prog 43 #[.pointer none, v, .int .i64 n] w fun e w' => e = .returned (.int .i64 6) ∧ w = w' := by
  go_enter Tryd.func43, Tryd.ntmps43
  go_wp2_with fail
  go_ret
  exact ⟨rfl, rfl⟩

theorem exec_slice_hi (w : World) (o : Oper) (ρ : Operand → Value) (x y : Operand) (b off c : Nat) (ho : o.op = .slice 33 x none (some y) none) (hx : ρ x = .slice (some ⟨b, off, none⟩) 128 128) (hy : ρ y = .int .i64 (c : Int)) (hc : (c : Int) ≤ 128) :
    (execOp ρ o).run Tryd.prog w = .ok (.value (.slice (some ⟨b, off, none⟩) c 128)) w := by
  unfold execOp
  simp only [ho]
  go_simp
theorem exec_slicep_hi (w : World) (o : Oper) (ρ : Operand → Value) (x y : Operand) (b off c : Nat) (ho : o.op = .slice 114 x none (some y) none) (hx : ρ x = .pointer (some ⟨b, off, none⟩)) (hy : ρ y = .int .i64 (c : Int)) (hc : (c : Int) ≤ 128) :
    (execOp ρ o).run Tryd.prog w = .ok (.value (.slice (some ⟨b, off, none⟩) c 128)) w := by
  unfold execOp
  simp only [ho]
  go_simp
theorem exec_slice_lo (w : World) (o : Oper) (ρ : Operand → Value) (x y : Operand) (b off c : Nat) (ho : o.op = .slice 33 x (some y) none none) (hx : ρ x = .slice (some ⟨b, off, none⟩) 128 128) (hy : ρ y = .int .i64 (c : Int)) (hc : (c : Int) ≤ 128) :
    ∃ a', (execOp ρ o).run Tryd.prog w = .ok (.value (.slice a' (128 - c) (128 - c))) w ∧ (c < 128 → a' = some ⟨b, off + c, none⟩) := by
  by_cases h : c = 128
  · subst h
    refine ⟨some ⟨b, off, none⟩, ?_, by omega⟩
    unfold execOp
    simp only [ho]
    go_simp
  · have h1 : c < 128 := by omega
    refine ⟨some ⟨b, off + c, none⟩, ?_, fun _ => rfl⟩
    have h2 : ¬ (128 = c) := by omega
    unfold execOp
    simp only [ho]
    go_simp
theorem exec_slicep_lo (w : World) (o : Oper) (ρ : Operand → Value) (x y : Operand) (b off c : Nat) (ho : o.op = .slice 114 x (some y) none none) (hx : ρ x = .pointer (some ⟨b, off, none⟩)) (hy : ρ y = .int .i64 (c : Int)) (hc : (c : Int) ≤ 128) :
    ∃ a', (execOp ρ o).run Tryd.prog w = .ok (.value (.slice a' (128 - c) (128 - c))) w ∧ (c < 128 → a' = some ⟨b, off + c, none⟩) := by
  by_cases h : c = 128
  · subst h
    refine ⟨some ⟨b, off, none⟩, ?_, by omega⟩
    unfold execOp
    simp only [ho]
    go_simp
  · have h1 : c < 128 := by omega
    refine ⟨some ⟨b, off + c, none⟩, ?_, fun _ => rfl⟩
    have h2 : ¬ (128 = c) := by omega
    unfold execOp
    simp only [ho]
    go_simp

theorem ok_slice_lo (w : World) (o : Oper) (ρ : Operand → Value) (x y : Operand) (b off c : Nat) (K : Value → World → Prop) (ho : o.op = .slice 33 x (some y) none none) (hx : ρ x = .slice (some ⟨b, off, none⟩) 128 128) (hy : ρ y = .int .i64 (c : Int)) (hc : (c : Int) ≤ 128)
    (hk : ∀ a', (c < 128 → a' = some ⟨b, off + c, none⟩) → K (.slice a' (128 - c) (128 - c)) w) : OpOk Tryd.prog o ρ w K := by
  obtain ⟨a', hr, ha⟩ := exec_slice_lo w o ρ x y b off c ho hx hy hc
  exact opOk_run hr (hk a' ha)
theorem ok_slicep_lo (w : World) (o : Oper) (ρ : Operand → Value) (x y : Operand) (b off c : Nat) (K : Value → World → Prop) (ho : o.op = .slice 114 x (some y) none none) (hx : ρ x = .pointer (some ⟨b, off, none⟩)) (hy : ρ y = .int .i64 (c : Int)) (hc : (c : Int) ≤ 128)
    (hk : ∀ a', (c < 128 → a' = some ⟨b, off + c, none⟩) → K (.slice a' (128 - c) (128 - c)) w) : OpOk Tryd.prog o ρ w K := by
  obtain ⟨a', hr, ha⟩ := exec_slicep_lo w o ρ x y b off c ho hx hy hc
  exact opOk_run hr (hk a' ha)
theorem set_getD_self {α : Type} [Inhabited α] (D : List (List α)) (i : Nat) (h : i < D.length) : D.set i (D.getD i []) = D := by
  rw [List.getD_eq_getElem?_getD, List.getElem?_eq_getElem h]
  exact List.set_getElem_self h

set_option maxRecDepth 20000 in
set_option maxHeartbeats 1000000 in
theorem crash_calls (w : World) (B g d : Nat) (wv : Value) (s : Sl) (a : Option Addr) (cap : Nat) (fates : List UInt8) (cut : Int) (h : IsSlab w B g d wv s) (hf : BS w a cap fates) (hoff : fates = [] ∨ ∀ x, a = some x → x.block ∉ slS g d wv)
    (hcut : -9223372036854775808 ≤ cut ∧ cut ≤ 9223372036854775807) :
    Calls Tryd.prog 43 #[.pointer (some ⟨g, 0, none⟩), .slice a fates.length cap, .int .i64 cut] w (SlabTo w B g d wv (crashL s fates cut) 0) := by
  obtain ⟨c, hc⟩ : ∃ c, cutOf cut = c := ⟨_, rfl⟩
  have hmm : min (max cut 0) 128 = (c : Int) := by rw [← hc]; unfold cutOf; omega
  have hc128 : (c : Int) ≤ 128 := by omega
  have Hc := hid hc
  have H := hid h
  have F := hid hf
  have Hoff := hid hoff
  have hwsm := h.ok.wsmall
  have hdsm := h.ok.small
  have hfl := hf.max'
  obtain ⟨wa, wc, e1, hwle, _⟩ := ownsRow_cs h.way
  have c1 := h.own.get 1 rfl
  rw [e1] at c1
  have E1 := hid e1
  have hlen : (s.way.length : Int) ≤ 1000000 := by omega
  have Hmm := hid hmm
  clear h hf hoff hc e1 hmm
  go_enter Tryd.func43, Tryd.ntmps43
  go_upto_region 4 with fail
  rw [show (if 128 < if cut < 0 then 0 else cut then 128 else if cut < 0 then 0 else cut) = (c : Int) from by have := Hmm.out; split <;> split <;> omega]
  generalize (if cut < 0 then 0 else cut) = z0
  go_wp2_with fail
  clear c1
  go_loopw [21] (fun iv wr => CrRel fates c s B g d wv w iv wr) (fun iv _ => s.way.length - (intOf iv).toNat)
  case atStart => exact ⟨0, rfl, Nat.zero_le _, H.out, Chg.refl _ _⟩
  case round =>
    obtain ⟨k, rfl, hk, hsl, hcw⟩ := hrel
    have S := hid hsl
    have Cw := hid hcw
    clear hsl hcw
    by_cases hkn : k < s.way.length
    · have hkn' : (k : Int) < (s.way.length : Int) := by omega
      obtain ⟨b, cap2, e2, hr⟩ := S.out.way_range k hkn
      have e3 := E1.out.symm.trans e2
      simp only [Value.slice.injEq] at e3
      obtain ⟨rfl, _, rfl⟩ := e3
      have hx := (S.out.ok.wsec _ (List.getElem_mem (l := s.way) (n := k) hkn))
      have hfs := hid (crD_succ fates c s k hkn)
      dsimp only at hr
      generalize s.way[k] = x at hr hx hfs
      obtain ⟨at', p⟩ := x
      have hl129 : (wrV (at', p)).length = 129 := wrV_length _ hx.1
      have Hx := hid hx
      have Hr := hid hr
      have Hl := hid hl129
      have FF := hid (bs_keep F.out Cw.out Hoff.out)
      have dl : (crD fates c s k).length = s.done.length := crD_length _ _ _ _
      have hdl : at' < s.done.length := by have := hx.2; dsimp only at this; omega
      have Hdl := hid hdl
      have hat : (at' : Int) < (s.done.length : Int) := by omega
      clear hx hr e2 hl129 hdl
      obtain ⟨f, hf⟩ : ∃ f, fateOf fates k = f := ⟨_, rfl⟩
      have hf4 : f < 4 := by rw [← hf]; unfold fateOf; split <;> omega
      have Hf := hid hf
      clear hf
      go_upto_if 29 with (first | (refine wpListQ_load_row rfl 116 (.tmp 24) rfl b (k * 129) (wrV (at', p)) rfl Hr.out under_write (by rw [Hl.out]; exact size_write) ?_) | (refine wpListQ_alloc 116 rfl rfl _ _ info_write ?_) | (refine wpListQ_store_new rfl 116 (.tmp 8) (.tmp 25) rfl zwrite (wrV (at', p)).toArray rfl rfl (by rw [size_write]; simp [Hl.out]) (by rw [zwrite_size]; simp [Hl.out]) (all_oneCell_toArray (wrV_one _)) ?_))
      have Bq : Kept (Blk (wr.alloc (.cells (wrV (at', p)).toArray 116)) wr.heap.size (wrV (at', p)) 116) := ⟨blk_alloc wr _ _⟩
      have S1 := hid (S.out.below (below_alloc wr (.cells (wrV (at', p)).toArray 116)))
      have C1 := hid (Cw.out.trans (Chg.of_below _ (below_alloc wr (.cells (wrV (at', p)).toArray 116))))
      have FF1 := hid (FF.out.below (below_alloc wr (.cells (wrV (at', p)).toArray 116)))
      obtain ⟨q, hq⟩ : ∃ q, wr.heap.size = q := ⟨_, rfl⟩
      have hqd : d < q := by rw [← hq]; exact S.out.don.lt
      have hqs : ∀ z, wv.ownBlock = some z → z < q := by rw [← hq]; exact fun z hz => (World.ownsRow.lt S.out.way z hz).2
      rw [hq] at Bq ⊢
      generalize wr.alloc (.cells (wrV (at', p)).toArray 116) = w3 at Bq S1 C1 FF1 ⊢
      have Hqs := hid hqs
      clear hq hqs
      go_cut [9] from 29 to 34 (fun v w' => v = .int .u8 (f : Int) ∧ w3 = w')
      case first =>
        by_cases hkf : k < fates.length
        · obtain ⟨bf, offf, rfl, hcf⟩ := FF1.out.at (by omega)
          have hcb := hcf k hkf
          have hfo := hid (show fateOf fates k = fates[k].toNat % 4 from by unfold fateOf; rw [if_pos hkf, List.getD_eq_getElem?_getD, List.getElem?_eq_getElem hkf]; rfl)
          have hxb := fates[k].toNat_lt
          generalize fates[k].toNat = x at hcb hfo hxb
          have hxb' : (x : Int) ≤ 255 := by omega
          have hkf' : (k : Int) < (fates.length : Int) := by omega
          clear hcf
          go_wp2_with fail
          go_meet
          have R : Value.int .u8 ((x : Int) % 4) = .int .u8 (f : Int) ∧ w3 = w3 := ⟨by rw [← Hf.out, hfo.out]; simp, rfl⟩
          first | exact R | ((repeat apply Exists.intro); refine ⟨R, ?_⟩; and_intros <;> rfl)
        · have hkf' : ¬ ((k : Int) < (fates.length : Int)) := by omega
          go_wp2_with fail
          go_meet
          have R : Value.int .u8 0 = .int .u8 (f : Int) ∧ w3 = w3 := ⟨by rw [← Hf.out, show fateOf fates k = 0 from if_neg hkf]; rfl, rfl⟩
          first | exact R | ((repeat apply Exists.intro); refine ⟨R, ?_⟩; and_intros <;> rfl)
      case rest =>
        obtain ⟨rfl, rfl⟩ := hcut
        go_upto_region 10 with fail
        refine wp_region_chg 8 8 [] (fun i v w' => match i with
          | 0 | 1 | 2 => v = .pointer (some ⟨g, 0, none⟩)
          | 3 => v = .slice (some ⟨d, 0, none⟩) s.done.length s.done.length
          | 4 => v = .pointer (some ⟨q, 0, none⟩)
          | 5 => v = .int .i64 (at' : Int)
          | 6 => v = .pointer (some ⟨d, at' * 128, none⟩)
          | 7 => v = .slice (some ⟨d, at' * 128, none⟩) 128 128
          | _ => True) (by kernel_rfl) (by kernel_rfl) (by kernel_rfl) ?_ ?_ ?_ ?_
        · intro j v w4 w4b hR hb
          match j, hR with
          | 0, hR | 1, hR | 2, hR | 3, hR | 4, hR | 5, hR | 6, hR | 7, hR => exact hR
          | _ + 8, _ => trivial
        · intro j v w4 w4b hne hR hb
          match j, hR with
          | 0, hR | 1, hR | 2, hR | 3, hR | 4, hR | 5, hR | 6, hR | 7, hR => exact hR
          | _ + 8, _ => trivial
        · refine ⟨?_, ?_, ?_, ?_, ?_, ?_, ?_, ?_, trivial⟩
          all_goals intro ρ w4 hE hc hg hf
          all_goals have hE : Chg [] w3.drew w4 := hE
          · intro h0; exact opOk_move _ rfl ⟨Below.refl _ _, h0⟩
          · intro (h0 : ρ (.tmp 35) = .pointer (some ⟨g, 0, none⟩))
            exact opOk_run (v := .pointer (some ⟨g, 0, none⟩)) (w' := w4) (by go_simp) ⟨Below.refl _ _, rfl⟩
          · intro (h0 : ρ (.tmp 36) = .pointer (some ⟨g, 0, none⟩))
            exact opOk_run (v := .pointer (some ⟨g, 0, none⟩)) (w' := w4) (by go_simp) ⟨Below.refl _ _, rfl⟩
          · intro (h0 : ρ (.tmp 37) = .pointer (some ⟨g, 0, none⟩))
            have c := ((S1.out.own.below (below_drew _)).keep hE (by simp)).get 0 rfl
            rw [dl] at c
            exact opOk_load _ _ rfl _ _ h0 (run_secs _ _ _ _ c) ⟨Below.refl _ _, rfl⟩
          · intro (h0 : ρ (.tmp 8) = .pointer (some ⟨q, 0, none⟩))
            exact opOk_run (v := .pointer (some ⟨q, 0, none⟩)) (w' := w4) (by go_simp) ⟨Below.refl _ _, rfl⟩
          · intro (h0 : ρ (.tmp 39) = .pointer (some ⟨q, 0, none⟩))
            have c := ((Bq.out.below (below_drew _)).keep hE (by simp)).get 0 rfl
            exact opOk_load _ _ rfl _ _ h0 (run_int_at _ _ _ _ c) ⟨Below.refl _ _, rfl⟩
          · intro (h0 : ρ (.tmp 38) = .slice (some ⟨d, 0, none⟩) s.done.length s.done.length) (h1 : ρ (.tmp 40) = .int .i64 (at' : Int))
            exact opOk_run (v := .pointer (some ⟨d, at' * 128, none⟩)) (w' := w4) (by go_simp) ⟨Below.refl _ _, rfl⟩
          · intro (h0 : ρ (.tmp 41) = .pointer (some ⟨d, at' * 128, none⟩))
            exact opOk_run (v := .slice (some ⟨d, at' * 128, none⟩) 128 128) (w' := w4) (by go_simp) ⟨Below.refl _ _, rfl⟩
        · intro w4 hE
          rintro _ rfl _ rfl _ rfl _ rfl _ rfl _ rfl _ rfl _ rfl
          simp only [PutLast, Act.put, List.setIfInBounds_toArray, List.set_cons_succ, List.set_cons_zero]
          refine opOk_assignV (.tmp 42) (.slice (some ⟨d, at' * 128, none⟩) 128 128) rfl rfl ?_
          have S2 := hid ((S1.out.below (below_drew _)).chg hE (by simp))
          have B2 := hid ((Bq.out.below (below_drew _)).keep hE (by simp))
          have C2 := hid (C1.out.trans ((Chg.of_below _ (below_drew w3)).trans (hE.mono (by simp))))
          clear hE
          obtain ⟨D, hD⟩ : ∃ D, crD fates c s k = D := ⟨_, rfl⟩
          rw [hD] at S2 dl
          have HD := hid hD
          clear hD
          have hpl := hid Hx.out.1
          have hgl := hid (show (D.getD at' []).length = 128 from by
            have := S2.out.ok.sec _ (List.getElem_mem (l := D) (n := at') (by rw [dl]; exact Hdl.out))
            rw [List.getD_eq_getElem?_getD, List.getElem?_eq_getElem (by rw [dl]; exact Hdl.out)]; exact this)
          have hf4' : f = 0 ∨ f = 1 ∨ f = 2 ∨ f = 3 := by omega
          rcases hf4' with rfl | rfl | rfl | rfl
          · have hst := hid (show D.set at' (torn 0 c (D.getD at' []) p) = D from by
              rw [show torn 0 c (D.getD at' []) p = D.getD at' [] from by unfold torn; simp]
              exact set_getD_self D at' (by rw [dl]; exact Hdl.out))
            go_wp2_with fail
            have R : CrRel fates c s B g d wv w (.int .i64 ((k : Int) + 1)) w4 := ⟨k + 1, by go_num, by omega, by rw [hfs.out, HD.out, Hf.out]; rw [hst.out]; exact S2.out, C2.out⟩
            refine ⟨?_, by simp [intOf]; omega⟩
            first | exact R | ((repeat apply Exists.intro); refine ⟨R, ?_⟩; and_intros <;> rfl)
          · go_upto_region 12 with fail
            refine wp_region_chg 6 6 [] (fun i v w' => match i with
              | 0 => v = .slice (some ⟨d, at' * 128, none⟩) 128 128
              | 1 | 4 => v = .int .i64 (c : Int)
              | 2 => v = .slice (some ⟨d, at' * 128, none⟩) c 128
              | 3 => v = .pointer (some ⟨q, 1, none⟩)
              | 5 => v = .slice (some ⟨q, 1, none⟩) c 128
              | _ => True) (by kernel_rfl) (by kernel_rfl) (by kernel_rfl) ?_ ?_ ?_ ?_
            · intro j v w6 w6b hR hb
              match j, hR with
              | 0, hR | 1, hR | 4, hR | 2, hR | 3, hR | 5, hR => exact hR
              | _ + 6, _ => trivial
            · intro j v w6 w6b hne hR hb
              match j, hR with
              | 0, hR | 1, hR | 4, hR | 2, hR | 3, hR | 5, hR => exact hR
              | _ + 6, _ => trivial
            · refine ⟨?_, ?_, ?_, ?_, ?_, ?_, trivial⟩
              all_goals intro ρ w6 hE hc hg hf
              all_goals have hE : Chg [] w4.drew w6 := hE
              · intro h0; exact opOk_move _ rfl ⟨Below.refl _ _, h0⟩
              · intro h0; exact opOk_move _ rfl ⟨Below.refl _ _, h0⟩
              · intro (h0 : ρ (.tmp 49) = .slice (some ⟨d, at' * 128, none⟩) 128 128) (h1 : ρ (.tmp 50) = .int .i64 (c : Int))
                exact opOk_run (exec_slice_hi w6 _ ρ (.tmp 49) (.tmp 50) d (at' * 128) c rfl h0 h1 hc128) ⟨Below.refl _ _, rfl⟩
              · intro (h0 : ρ (.tmp 8) = .pointer (some ⟨q, 0, none⟩))
                exact opOk_run (v := .pointer (some ⟨q, 1, none⟩)) (w' := w6) (by go_simp) ⟨Below.refl _ _, rfl⟩
              · intro h0; exact opOk_move _ rfl ⟨Below.refl _ _, h0⟩
              · intro (h0 : ρ (.tmp 52) = .pointer (some ⟨q, 1, none⟩)) (h1 : ρ (.tmp 53) = .int .i64 (c : Int))
                exact opOk_run (exec_slicep_hi w6 _ ρ (.tmp 52) (.tmp 53) q 1 c rfl h0 h1 hc128) ⟨Below.refl _ _, rfl⟩
            · intro w6 hE
              rintro _ rfl _ rfl _ rfl _ rfl _ rfl _ rfl
              simp only [PutLast, Act.put, List.setIfInBounds_toArray, List.set_cons_succ, List.set_cons_zero]
              have S4 := (S2.out.below (below_drew _)).chg hE (by simp)
              have B4 := (B2.out.below (below_drew _)).keep hE (by simp)
              have hp := Hx.out.1
              have hD : (D).length = s.done.length := by simp [dl]
              have hdl := Hdl.out
              have hD0 := S4.ok.sec _ (List.getElem_mem (l := D) (n := at') (by omega))
              have hcl : (p.take c).length = c := by rw [List.length_take, hp]; omega
              have hfit : at' * 128 + ((p.take c).map u8v).length ≤ ((D).flatMap bV).length := by
                rw [flat_lengthM bV 128 _ (bV_all S4.ok), List.length_map, hcl, hD]
                have : (at' + 1) * 128 ≤ s.done.length * 128 := Nat.mul_le_mul_right _ hdl
                omega
              refine opOk_copy (.tmp 51) (.tmp 54) 33 33 rfl 5 under_bytes (by kernel_rfl) (some ⟨d, at' * 128, none⟩) (some ⟨q, 1, none⟩) c 128 c 128 rfl rfl d (at' * 128) ((D).flatMap bV) 114 S4.don ((p.take c).map u8v)
                (by rw [List.length_map, hcl]; exact (Nat.min_self c).symm) (fun _ => ⟨rfl, _, rfl, fun j v hv => ?_⟩) hfit (oneCell_u8v _) ?_
              · rw [Addr.add_mid, B4.cell, Nat.add_comm 1 j]
                rw [List.map_take, List.getElem?_take] at hv
                split at hv
                · exact hv
                · cases hv
              intro w7 hB hch
              have S6 := hid (S4.putPart hch at' 0 (p.take c ++ ((D)[at']'(by omega)).drop c) (p.take c) (by show at' < (D).length; omega) (by rw [hcl]; omega) (by simp [hcl]) (by simpa using hB))
              have B6 := hid (B4.keep hch (by simp; omega))
              have C6 := hid ((C2.out.trans ((Chg.of_below _ (below_drew w4)).trans (hE.mono (by simp)))).trans (hch.mono (T := slS g d wv) (by simp [slS])))
              have E6 := hid (show ((D).set at' (p.take c ++ ((D)[at']'(by omega)).drop c)) = (D).set at' (p.take c ++ ((D).getD at' []).drop c) from by congr 2; simp [List.getElem?_eq_getElem (show at' < (D).length by omega)])
              clear hE S4 B4 hp hD hdl hD0 hcl hfit hB hch
              rw [E6.out] at S6
              have S7 := S6; have B7 := B6; have C7 := C6
              clear S6 B6 C6 E6
              skip
              obtain ⟨D2, hD2⟩ : ∃ D2, D.set at' (p.take c ++ (D.getD at' []).drop c) = D2 := ⟨_, rfl⟩
              rw [hD2] at S7
              have hg2 : D2.getD at' [] = p.take c ++ (D.getD at' []).drop c := by rw [← hD2]; simp [dl, Hdl.out]
              have hs2 : ∀ q, D2.set at' q = D.set at' q := fun q => by rw [← hD2, List.set_set]
              have dl2 : D2.length = s.done.length := by rw [← hD2, List.length_set]; exact dl
              have Hg2 := hid hg2; have Hs2 := hid hs2; have dl1 := hid dl
              clear hD2 hg2 hs2 dl
              have dl := dl2
              clear dl2
              go_upto_region 14 with fail
              refine wp_region_chg 6 6 [] (fun i v w' => match i with
                | 0 => v = .slice (some ⟨d, at' * 128, none⟩) 128 128
                | 1 | 4 => v = .int .i64 (c : Int)
                | 2 => ∃ a', v = .slice a' (128 - c) (128 - c) ∧ (c < 128 → a' = some ⟨d, at' * 128 + c, none⟩)
                | 3 => v = .pointer (some ⟨q, 1, none⟩)
                | 5 => ∃ a', v = .slice a' (128 - c) (128 - c) ∧ (c < 128 → a' = some ⟨q, 1 + c, none⟩)
                | _ => True) (by kernel_rfl) (by kernel_rfl) (by kernel_rfl) ?_ ?_ ?_ ?_
              · intro j v w8 w8b hR hb
                match j, hR with
                | 0, hR | 1, hR | 4, hR | 2, hR | 3, hR | 5, hR => exact hR
                | _ + 6, _ => trivial
              · intro j v w8 w8b hne hR hb
                match j, hR with
                | 0, hR | 1, hR | 4, hR | 2, hR | 3, hR | 5, hR => exact hR
                | _ + 6, _ => trivial
              · refine ⟨?_, ?_, ?_, ?_, ?_, ?_, trivial⟩
                all_goals intro ρ w8 hE hc hg hf
                all_goals have hE : Chg [] w7.drew w8 := hE
                · intro h0; exact opOk_move _ rfl ⟨Below.refl _ _, h0⟩
                · intro h0; exact opOk_move _ rfl ⟨Below.refl _ _, h0⟩
                · intro (h0 : ρ (.tmp 62) = .slice (some ⟨d, at' * 128, none⟩) 128 128) (h1 : ρ (.tmp 63) = .int .i64 (c : Int))
                  exact ok_slice_lo _ _ _ (.tmp 62) (.tmp 63) d (at' * 128) c _ rfl h0 h1 hc128 (fun a' ha => ⟨Below.refl _ _, a', rfl, ha⟩)
                · intro (h0 : ρ (.tmp 8) = .pointer (some ⟨q, 0, none⟩))
                  exact opOk_run (v := .pointer (some ⟨q, 1, none⟩)) (w' := w8) (by go_simp) ⟨Below.refl _ _, rfl⟩
                · intro h0; exact opOk_move _ rfl ⟨Below.refl _ _, h0⟩
                · intro (h0 : ρ (.tmp 65) = .pointer (some ⟨q, 1, none⟩)) (h1 : ρ (.tmp 66) = .int .i64 (c : Int))
                  exact ok_slicep_lo _ _ _ (.tmp 65) (.tmp 66) q 1 c _ rfl h0 h1 hc128 (fun a' ha => ⟨Below.refl _ _, a', rfl, ha⟩)
              · intro w8 hE
                rintro _ rfl _ rfl _ ⟨a1, rfl, ha1⟩ _ rfl _ rfl _ ⟨a2, rfl, ha2⟩
                simp only [PutLast, Act.put, List.setIfInBounds_toArray, List.set_cons_succ, List.set_cons_zero]
                have S4 := (S7.out.below (below_drew _)).chg hE (by simp)
                have B4 := (B7.out.below (below_drew _)).keep hE (by simp)
                have hp := Hx.out.1
                have hD : (D2).length = s.done.length := by simp [dl]
                have hdl := Hdl.out
                have hD0 := S4.ok.sec _ (List.getElem_mem (l := D2) (n := at') (by omega))
                have hcl : (p.drop c).length = 128 - c := by rw [List.length_drop, hp]
                have hfit : at' * 128 + c + ((p.drop c).map u8v).length ≤ ((D2).flatMap bV).length := by
                  rw [flat_lengthM bV 128 _ (bV_all S4.ok), List.length_map, hcl, hD]
                  have : (at' + 1) * 128 ≤ s.done.length * 128 := Nat.mul_le_mul_right _ hdl
                  omega
                refine opOk_copy (.tmp 64) (.tmp 67) 33 33 rfl 5 under_bytes (by kernel_rfl) a1 a2 (128 - c) (128 - c) (128 - c) (128 - c) rfl rfl d (at' * 128 + c) ((D2).flatMap bV) 114 S4.don ((p.drop c).map u8v)
                  (by rw [List.length_map, hcl]; exact (Nat.min_self _).symm) (fun h0 => ⟨ha1 (by rw [List.length_map, hcl] at h0; omega), _, ha2 (by rw [List.length_map, hcl] at h0; omega), fun j v hv => ?_⟩) hfit (oneCell_u8v _) ?_
                · rw [Addr.add_mid, B4.cell, Nat.add_assoc, Nat.add_comm 1]
                  rw [List.map_drop, List.getElem?_drop] at hv
                  exact hv
                intro w9 hB hch
                have S6 := hid (S4.putPart hch at' c (((D2)[at']'(by omega)).take c ++ p.drop c) (p.drop c) (by show at' < (D2).length; omega) (by rw [hcl]; omega) (by
                  rw [hcl]; simp [List.drop_eq_nil_of_le (show ((D2)[at']'(by omega)).length ≤ c + (128 - c) from by rw [hD0]; omega)]) hB)
                have B6 := hid (B4.keep hch (by simp; omega))
                have C6 := hid ((C7.out.trans ((Chg.of_below _ (below_drew w7)).trans (hE.mono (by simp)))).trans (hch.mono (T := slS g d wv) (by simp [slS])))
                have E6 := hid (show ((D2).set at' (((D2)[at']'(by omega)).take c ++ p.drop c)) = (D2).set at' (((D2).getD at' []).take c ++ p.drop c) from by congr 2; simp [List.getElem?_eq_getElem (show at' < (D2).length by omega)])
                clear hE S4 B4 hp hD hdl hD0 hcl hfit hB hch
                have S8 := hid (show IsSlab w9 B g d wv { s with done := D.set at' (torn 1 c (D.getD at' []) p) } from by
                  have := S6.out
                  rw [E6.out, Hs2.out, Hg2.out] at this
                  rw [show torn 1 c (D.getD at' []) p = (p.take c ++ (D.getD at' []).drop c).take c ++ p.drop c from by
                    unfold torn; rw [List.take_left' (by rw [List.length_take, hpl.out]; omega)]; simp]
                  exact this)
                have C8 := C6
                clear S6 C6 B6 E6
                go_wp2_with fail
                have R : CrRel fates c s B g d wv w (.int .i64 ((k : Int) + 1)) w9 := ⟨k + 1, by go_num, by omega, by rw [hfs.out, HD.out, Hf.out]; exact S8.out, C8.out⟩
                refine ⟨?_, by simp [intOf]; omega⟩
                first | exact R | ((repeat apply Exists.intro); refine ⟨R, ?_⟩; and_intros <;> rfl)
          · go_upto_region 12 with fail
            refine wp_region_chg 6 6 [] (fun i v w' => match i with
              | 0 => v = .slice (some ⟨d, at' * 128, none⟩) 128 128
              | 1 | 4 => v = .int .i64 (c : Int)
              | 2 => v = .slice (some ⟨d, at' * 128, none⟩) c 128
              | 3 => v = .pointer (some ⟨q, 1, none⟩)
              | 5 => v = .slice (some ⟨q, 1, none⟩) c 128
              | _ => True) (by kernel_rfl) (by kernel_rfl) (by kernel_rfl) ?_ ?_ ?_ ?_
            · intro j v w6 w6b hR hb
              match j, hR with
              | 0, hR | 1, hR | 4, hR | 2, hR | 3, hR | 5, hR => exact hR
              | _ + 6, _ => trivial
            · intro j v w6 w6b hne hR hb
              match j, hR with
              | 0, hR | 1, hR | 4, hR | 2, hR | 3, hR | 5, hR => exact hR
              | _ + 6, _ => trivial
            · refine ⟨?_, ?_, ?_, ?_, ?_, ?_, trivial⟩
              all_goals intro ρ w6 hE hc hg hf
              all_goals have hE : Chg [] w4.drew w6 := hE
              · intro h0; exact opOk_move _ rfl ⟨Below.refl _ _, h0⟩
              · intro h0; exact opOk_move _ rfl ⟨Below.refl _ _, h0⟩
              · intro (h0 : ρ (.tmp 49) = .slice (some ⟨d, at' * 128, none⟩) 128 128) (h1 : ρ (.tmp 50) = .int .i64 (c : Int))
                exact opOk_run (exec_slice_hi w6 _ ρ (.tmp 49) (.tmp 50) d (at' * 128) c rfl h0 h1 hc128) ⟨Below.refl _ _, rfl⟩
              · intro (h0 : ρ (.tmp 8) = .pointer (some ⟨q, 0, none⟩))
                exact opOk_run (v := .pointer (some ⟨q, 1, none⟩)) (w' := w6) (by go_simp) ⟨Below.refl _ _, rfl⟩
              · intro h0; exact opOk_move _ rfl ⟨Below.refl _ _, h0⟩
              · intro (h0 : ρ (.tmp 52) = .pointer (some ⟨q, 1, none⟩)) (h1 : ρ (.tmp 53) = .int .i64 (c : Int))
                exact opOk_run (exec_slicep_hi w6 _ ρ (.tmp 52) (.tmp 53) q 1 c rfl h0 h1 hc128) ⟨Below.refl _ _, rfl⟩
            · intro w6 hE
              rintro _ rfl _ rfl _ rfl _ rfl _ rfl _ rfl
              simp only [PutLast, Act.put, List.setIfInBounds_toArray, List.set_cons_succ, List.set_cons_zero]
              have S4 := (S2.out.below (below_drew _)).chg hE (by simp)
              have B4 := (B2.out.below (below_drew _)).keep hE (by simp)
              have hp := Hx.out.1
              have hD : (D).length = s.done.length := by simp [dl]
              have hdl := Hdl.out
              have hD0 := S4.ok.sec _ (List.getElem_mem (l := D) (n := at') (by omega))
              have hcl : (p.take c).length = c := by rw [List.length_take, hp]; omega
              have hfit : at' * 128 + ((p.take c).map u8v).length ≤ ((D).flatMap bV).length := by
                rw [flat_lengthM bV 128 _ (bV_all S4.ok), List.length_map, hcl, hD]
                have : (at' + 1) * 128 ≤ s.done.length * 128 := Nat.mul_le_mul_right _ hdl
                omega
              refine opOk_copy (.tmp 51) (.tmp 54) 33 33 rfl 5 under_bytes (by kernel_rfl) (some ⟨d, at' * 128, none⟩) (some ⟨q, 1, none⟩) c 128 c 128 rfl rfl d (at' * 128) ((D).flatMap bV) 114 S4.don ((p.take c).map u8v)
                (by rw [List.length_map, hcl]; exact (Nat.min_self c).symm) (fun _ => ⟨rfl, _, rfl, fun j v hv => ?_⟩) hfit (oneCell_u8v _) ?_
              · rw [Addr.add_mid, B4.cell, Nat.add_comm 1 j]
                rw [List.map_take, List.getElem?_take] at hv
                split at hv
                · exact hv
                · cases hv
              intro w9 hB hch
              have S6 := hid (S4.putPart hch at' 0 (p.take c ++ ((D)[at']'(by omega)).drop c) (p.take c) (by show at' < (D).length; omega) (by rw [hcl]; omega) (by simp [hcl]) (by simpa using hB))
              have B6 := hid (B4.keep hch (by simp; omega))
              have C6 := hid ((C2.out.trans ((Chg.of_below _ (below_drew w4)).trans (hE.mono (by simp)))).trans (hch.mono (T := slS g d wv) (by simp [slS])))
              have E6 := hid (show ((D).set at' (p.take c ++ ((D)[at']'(by omega)).drop c)) = (D).set at' (p.take c ++ ((D).getD at' []).drop c) from by congr 2; simp [List.getElem?_eq_getElem (show at' < (D).length by omega)])
              clear hE S4 B4 hp hD hdl hD0 hcl hfit hB hch
              rw [E6.out] at S6
              have S7 := S6; have B7 := B6; have C7 := C6
              clear S6 B6 C6 E6
              have S8 := hid (show IsSlab w9 B g d wv { s with done := D.set at' (torn 2 c (D.getD at' []) p) } from by
                rw [show torn 2 c (D.getD at' []) p = p.take c ++ (D.getD at' []).drop c from by unfold torn; simp]
                exact S7.out)
              clear S7
              go_wp2_with fail
              have R : CrRel fates c s B g d wv w (.int .i64 ((k : Int) + 1)) w9 := ⟨k + 1, by go_num, by omega, by rw [hfs.out, HD.out, Hf.out]; exact S8.out, C7.out⟩
              refine ⟨?_, by simp [intOf]; omega⟩
              first | exact R | ((repeat apply Exists.intro); refine ⟨R, ?_⟩; and_intros <;> rfl)
          · go_upto_region 14 with fail
            refine wp_region_chg 6 6 [] (fun i v w' => match i with
              | 0 => v = .slice (some ⟨d, at' * 128, none⟩) 128 128
              | 1 | 4 => v = .int .i64 (c : Int)
              | 2 => ∃ a', v = .slice a' (128 - c) (128 - c) ∧ (c < 128 → a' = some ⟨d, at' * 128 + c, none⟩)
              | 3 => v = .pointer (some ⟨q, 1, none⟩)
              | 5 => ∃ a', v = .slice a' (128 - c) (128 - c) ∧ (c < 128 → a' = some ⟨q, 1 + c, none⟩)
              | _ => True) (by kernel_rfl) (by kernel_rfl) (by kernel_rfl) ?_ ?_ ?_ ?_
            · intro j v w6 w6b hR hb
              match j, hR with
              | 0, hR | 1, hR | 4, hR | 2, hR | 3, hR | 5, hR => exact hR
              | _ + 6, _ => trivial
            · intro j v w6 w6b hne hR hb
              match j, hR with
              | 0, hR | 1, hR | 4, hR | 2, hR | 3, hR | 5, hR => exact hR
              | _ + 6, _ => trivial
            · refine ⟨?_, ?_, ?_, ?_, ?_, ?_, trivial⟩
              all_goals intro ρ w6 hE hc hg hf
              all_goals have hE : Chg [] w4.drew w6 := hE
              · intro h0; exact opOk_move _ rfl ⟨Below.refl _ _, h0⟩
              · intro h0; exact opOk_move _ rfl ⟨Below.refl _ _, h0⟩
              · intro (h0 : ρ (.tmp 62) = .slice (some ⟨d, at' * 128, none⟩) 128 128) (h1 : ρ (.tmp 63) = .int .i64 (c : Int))
                exact ok_slice_lo _ _ _ (.tmp 62) (.tmp 63) d (at' * 128) c _ rfl h0 h1 hc128 (fun a' ha => ⟨Below.refl _ _, a', rfl, ha⟩)
              · intro (h0 : ρ (.tmp 8) = .pointer (some ⟨q, 0, none⟩))
                exact opOk_run (v := .pointer (some ⟨q, 1, none⟩)) (w' := w6) (by go_simp) ⟨Below.refl _ _, rfl⟩
              · intro h0; exact opOk_move _ rfl ⟨Below.refl _ _, h0⟩
              · intro (h0 : ρ (.tmp 65) = .pointer (some ⟨q, 1, none⟩)) (h1 : ρ (.tmp 66) = .int .i64 (c : Int))
                exact ok_slicep_lo _ _ _ (.tmp 65) (.tmp 66) q 1 c _ rfl h0 h1 hc128 (fun a' ha => ⟨Below.refl _ _, a', rfl, ha⟩)
            · intro w6 hE
              rintro _ rfl _ rfl _ ⟨a1, rfl, ha1⟩ _ rfl _ rfl _ ⟨a2, rfl, ha2⟩
              simp only [PutLast, Act.put, List.setIfInBounds_toArray, List.set_cons_succ, List.set_cons_zero]
              have S4 := (S2.out.below (below_drew _)).chg hE (by simp)
              have B4 := (B2.out.below (below_drew _)).keep hE (by simp)
              have hp := Hx.out.1
              have hD : (D).length = s.done.length := by simp [dl]
              have hdl := Hdl.out
              have hD0 := S4.ok.sec _ (List.getElem_mem (l := D) (n := at') (by omega))
              have hcl : (p.drop c).length = 128 - c := by rw [List.length_drop, hp]
              have hfit : at' * 128 + c + ((p.drop c).map u8v).length ≤ ((D).flatMap bV).length := by
                rw [flat_lengthM bV 128 _ (bV_all S4.ok), List.length_map, hcl, hD]
                have : (at' + 1) * 128 ≤ s.done.length * 128 := Nat.mul_le_mul_right _ hdl
                omega
              refine opOk_copy (.tmp 64) (.tmp 67) 33 33 rfl 5 under_bytes (by kernel_rfl) a1 a2 (128 - c) (128 - c) (128 - c) (128 - c) rfl rfl d (at' * 128 + c) ((D).flatMap bV) 114 S4.don ((p.drop c).map u8v)
                (by rw [List.length_map, hcl]; exact (Nat.min_self _).symm) (fun h0 => ⟨ha1 (by rw [List.length_map, hcl] at h0; omega), _, ha2 (by rw [List.length_map, hcl] at h0; omega), fun j v hv => ?_⟩) hfit (oneCell_u8v _) ?_
              · rw [Addr.add_mid, B4.cell, Nat.add_assoc, Nat.add_comm 1]
                rw [List.map_drop, List.getElem?_drop] at hv
                exact hv
              intro w9 hB hch
              have S6 := hid (S4.putPart hch at' c (((D)[at']'(by omega)).take c ++ p.drop c) (p.drop c) (by show at' < (D).length; omega) (by rw [hcl]; omega) (by
                rw [hcl]; simp [List.drop_eq_nil_of_le (show ((D)[at']'(by omega)).length ≤ c + (128 - c) from by rw [hD0]; omega)]) hB)
              have B6 := hid (B4.keep hch (by simp; omega))
              have C6 := hid ((C2.out.trans ((Chg.of_below _ (below_drew w4)).trans (hE.mono (by simp)))).trans (hch.mono (T := slS g d wv) (by simp [slS])))
              have E6 := hid (show ((D).set at' (((D)[at']'(by omega)).take c ++ p.drop c)) = (D).set at' (((D).getD at' []).take c ++ p.drop c) from by congr 2; simp [List.getElem?_eq_getElem (show at' < (D).length by omega)])
              clear hE S4 B4 hp hD hdl hD0 hcl hfit hB hch
              rw [E6.out] at S6
              have S7 := S6; have B7 := B6; have C7 := C6
              clear S6 B6 C6 E6
              have S8 := hid (show IsSlab w9 B g d wv { s with done := D.set at' (torn 3 c (D.getD at' []) p) } from by
                rw [show torn 3 c (D.getD at' []) p = (D.getD at' []).take c ++ p.drop c from by unfold torn; simp]
                exact S7.out)
              clear S7
              go_wp2_with fail
              have R : CrRel fates c s B g d wv w (.int .i64 ((k : Int) + 1)) w9 := ⟨k + 1, by go_num, by omega, by rw [hfs.out, HD.out, Hf.out]; exact S8.out, C7.out⟩
              refine ⟨?_, by simp [intOf]; omega⟩
              first | exact R | ((repeat apply Exists.intro); refine ⟨R, ?_⟩; and_intros <;> rfl)
    · obtain rfl : k = s.way.length := by omega
      have hkn' : ¬ ((s.way.length : Int) < (s.way.length : Int)) := by omega
      have c1 := S.out.own.get 1 rfl
      have f1 := S.out.own.free 1
      have c2 := S.out.own.get 2 rfl
      have f2 := S.out.own.free 2
      have c3 := S.out.own.get 3 rfl
      have f3 := S.out.own.free 3
      have hch : Chg [g] wr (((wr.setCell ⟨g, 1, none⟩ (.slice none 0 0)).setCell ⟨g, 2, none⟩ (.bool false)).setCell ⟨g, 3, none⟩ (.int .i64 0)) := ((chg_setCell wr g 1 _).trans (chg_setCell _ g 2 _)).trans (chg_setCell _ g 3 _)
      have hne := S.out.ne
      have hB := ((S.out.own.set 1 (.slice none 0 0)).set 2 (.bool false)).set 3 (.int .i64 0)
      simp only [List.set_cons_succ, List.set_cons_zero] at hB
      have hall : crD fates c s s.way.length = crashD fates (cutOf cut) 0 s.way s.done := by unfold crD; rw [List.take_length, Hc.out]
      have F9 : Kept (IsSlab (((wr.setCell ⟨g, 1, none⟩ (.slice none 0 0)).setCell ⟨g, 2, none⟩ (.bool false)).setCell ⟨g, 3, none⟩ (.int .i64 0)) B g d (.slice none 0 0) (crashL s fates cut)) := by
        have e : crashL s fates cut = { s with done := crD fates c s s.way.length, way := [], off := false, armed := 0 } := by unfold crashL; rw [hall]
        rw [e]
        exact ⟨⟨hB, S.out.don.keep hch (by simp; exact fun e => hne.1 e.symm), World.ownsRow_nil _ _ _ _, ⟨S.out.ok.sec, by simp, S.out.ok.small, by simp, S.out.ok.ssmall, by simp⟩, S.out.ge, hne.1, by simp [Value.ownBlock], by simp [Value.ownBlock]⟩⟩
      have C9 := hid (Cw.out.trans (hch.mono (T := slS g d wv) (by simp [slS])))
      clear hch hne hB hall
      go_wp2_with fail
      go_ret
      exact ⟨_, rfl, F9.out, C9.out, by simp [Value.ownBlock]⟩
end Go.Proofs.YtoapibbbooongaaDoor

/- A slab's write and read at anything; the example. -/
namespace Go.Proofs.YtoapibbbooongaaDoor
open Go.RowKit Go.Quad _root_.Quad.Slab

theorem nilwrite_calls (w : World) (i : Int) (a : Option Addr) (n cap : Nat) : Calls Tryd.prog 17 #[.pointer none, .int .i64 i, .slice a n cap] w fun e w' => e = .returned (.int .i64 6) ∧ w = w' := by
  go_enter Tryd.func17, Tryd.ntmps17
  go_wp2_with fail
  refine (nilhas_calls _ _ _).mono ?_
  rintro e w' ⟨rfl, rfl⟩
  go_wp2_with fail
  go_ret
  exact ⟨rfl, rfl⟩

theorem nilread_calls (w : World) (i : Int) : Calls Tryd.prog 82 #[.pointer none, .int .i64 i] w fun e w' => e = .returned (.tuple #[.slice none 0 0, .int .i64 6]) ∧ w = w' := by
  go_enter Tryd.func82, Tryd.ntmps82
  go_wp2_with fail
  refine (nilhas_calls _ _ _).mono ?_
  rintro e w' ⟨rfl, rfl⟩
  go_wp2_with fail
  go_ret2
  exact ⟨rfl, rfl⟩

theorem writeno_calls (w : World) (B g d : Nat) (wv : Value) (s : Sl) (i : Int) (n : Nat) (a : Option Addr) (cap m : Nat) (h : IsSlab w B g d wv s) (hi : -9223372036854775808 ≤ i ∧ i ≤ 9223372036854775807) (hm : m ≤ 9223372036854775807) (h0 : hasL s i m = n) (hn : n ≠ 0) :
    Calls Tryd.prog 17 #[.pointer (some ⟨g, 0, none⟩), .int .i64 i, .slice a m cap] w fun e w' => e = .returned (.int .i64 (n : Int)) ∧ w = w' := by
  have C := has_calls w B g d wv s i m h hi (by omega)
  rw [h0] at C
  have Cx := hid C
  have hb : ((n : Int) == 0) = false := by rw [beq_eq_false_iff_ne]; omega
  have hb' : ((n : Int) != 0) = true := by rw [bne_iff_ne]; omega
  clear h C h0 hn
  go_enter Tryd.func17, Tryd.ntmps17
  go_wp2_with fail
  refine Cx.out.mono ?_
  rintro e w' ⟨rfl, rfl⟩
  go_wp2_with fail
  go_ret
  exact ⟨rfl, rfl⟩

/-- a write, of anything, anywhere -/
theorem write_any (w : World) (B g d : Nat) (wv : Value) (s : Sl) (i : Int) (a : Option Addr) (cap : Nat) (t : List UInt8) (h : IsSlab w B g d wv s) (hi : -9223372036854775808 ≤ i ∧ i ≤ 9223372036854775807) (ht : BS w a cap t) (hs : s.steps < 1000000) (hw : s.way.length < 1000000) (hoff : t = [] ∨ ∀ x, a = some x → x.block ∉ slS g d wv) :
    Calls Tryd.prog 17 #[.pointer (some ⟨g, 0, none⟩), .int .i64 i, .slice a t.length cap] w (SlabTo w B g d wv (writeL s i t).1 (writeL s i t).2) := by
  by_cases h0 : hasL s i t.length = 0
  · exact write_calls w B g d wv s i a cap t h hi ht hs hw hoff h0
  · rw [show writeL s i t = (s, hasL s i t.length) from by unfold writeL; rw [if_pos h0]]
    refine (writeno_calls w B g d wv s i _ a cap t.length h hi ht.max' rfl h0).mono ?_
    rintro e w' ⟨rfl, rfl⟩
    exact ⟨wv, rfl, h, Chg.refl _ _, fun k hk => .inl (by simp [slS, hk])⟩

/-- a read, anywhere -/
def ReadAny (w : World) (p : List UInt8) (n : Nat) (e : Ending) (w' : World) : Prop := ∃ v, e = .returned (.tuple #[v, .int .i64 (n : Int)]) ∧ OB w' w.heap.size 5 v p ∧ Below w.heap.size w w'

theorem read_any (w : World) (B g d : Nat) (wv : Value) (s : Sl) (i : Int) (h : IsSlab w B g d wv s) (hi : -9223372036854775808 ≤ i ∧ i ≤ 9223372036854775807) :
    Calls Tryd.prog 82 #[.pointer (some ⟨g, 0, none⟩), .int .i64 i] w (ReadAny w (readL s i).1 (readL s i).2) := by
  by_cases h0 : hasL s i 0 = 0
  · have hin := hasL_in h0
    obtain ⟨k, rfl⟩ : ∃ k : Nat, i = k := ⟨i.toNat, by omega⟩
    rw [show readL s (k : Int) = (seenL s k, 0) from by unfold readL; rw [if_neg (by rw [h0]; simp)]; rfl]
    exact read_calls w B g d wv s k h h0
  · rw [show readL s i = ([], hasL s i 0) from by unfold readL; rw [if_pos h0]]
    refine (readno_calls w B g d wv s i _ h hi rfl h0).mono ?_
    rintro e w' ⟨rfl, rfl⟩
    exact ⟨_, rfl, World.ownsRow_nil _ _ _ _, Below.refl _ _⟩

/-! ### one slab, from the world before it was made -/
theorem IsSlab.in_ge {w : World} {B g d : Nat} {wv : Value} {s : Sl} (h : IsSlab w B g d wv s) : ∀ k ∈ slS g d wv, B ≤ k ∧ k < w.heap.size := by
  intro k hk
  simp only [slS, List.mem_cons] at hk
  rcases hk with rfl | rfl | hk
  · exact ⟨h.ge.1, h.own.lt⟩
  · exact ⟨h.ge.2, h.don.lt⟩
  · exact World.ownsRow.lt h.way k (by simpa using hk)

/-- from w0 on nothing that was there has changed; at g a slab lies -/
def SA (w0 : World) (g : Nat) (s : Sl) (w : World) : Prop := (∃ d wv, IsSlab w w0.heap.size g d wv s) ∧ Below w0.heap.size w0 w

theorem SA.below {w0 w w' : World} {g : Nat} {s : Sl} (h : SA w0 g s w) (hb : Below w.heap.size w w') : SA w0 g s w' := by
  obtain ⟨⟨d, wv, h1⟩, h2⟩ := h
  exact ⟨⟨d, wv, h1.below hb⟩, h2.trans (hb.mono h2.size)⟩

theorem SA.to {w0 w w' : World} {g d : Nat} {wv : Value} {s s' : Sl} {r : Nat} {e : Ending} (h : IsSlab w w0.heap.size g d wv s) (hb : Below w0.heap.size w0 w) (ht : SlabTo w w0.heap.size g d wv s' r e w') : e = .returned (.int .i64 (r : Int)) ∧ SA w0 g s' w' := by
  obtain ⟨wv', rfl, h1, h2, h3⟩ := ht
  exact ⟨rfl, ⟨d, wv', h1⟩, hb.trans (h2.below hb.size fun k hk => (h.in_ge k hk).1)⟩

/-- where bytes lie that no slab has: they were there before, or came later -/
def OffS (w0 w : World) (g : Nat) (a : Option Addr) (t : List UInt8) : Prop := t = [] ∨ ∀ x, a = some x → x.block < w0.heap.size ∨ ∀ d wv s, IsSlab w w0.heap.size g d wv s → x.block ∉ slS g d wv

theorem sa_write (w0 w : World) (g : Nat) (s : Sl) (i : Int) (a : Option Addr) (cap : Nat) (t : List UInt8) (h : SA w0 g s w) (hi : -9223372036854775808 ≤ i ∧ i ≤ 9223372036854775807) (ht : BS w a cap t) (hs : s.steps < 1000000) (hw : s.way.length < 1000000) (hoff : OffS w0 w g a t) :
    Calls Tryd.prog 17 #[.pointer (some ⟨g, 0, none⟩), .int .i64 i, .slice a t.length cap] w fun e w' => e = .returned (.int .i64 ((writeL s i t).2 : Int)) ∧ SA w0 g (writeL s i t).1 w' := by
  obtain ⟨⟨d, wv, h1⟩, h2⟩ := h
  refine (write_any w _ g d wv s i a cap t h1 hi ht hs hw ?_).mono fun e w' ht => SA.to h1 h2 ht
  refine hoff.imp id fun hoff x hx hm => ?_
  rcases hoff x hx with h | h
  · have := (h1.in_ge _ hm).1; omega
  · exact h d wv s h1 hm

theorem sa_flush (w0 w : World) (g : Nat) (s : Sl) (h : SA w0 g s w) (hs : s.steps < 1000000) :
    Calls Tryd.prog 65 #[.pointer (some ⟨g, 0, none⟩)] w fun e w' => e = .returned (.int .i64 ((flushL s).2 : Int)) ∧ SA w0 g (flushL s).1 w' := by
  obtain ⟨⟨d, wv, h1⟩, h2⟩ := h
  exact (flush_calls w _ g d wv s h1 hs).mono fun e w' ht => SA.to h1 h2 ht

theorem sa_crash (w0 w : World) (g : Nat) (s : Sl) (a : Option Addr) (cap : Nat) (fates : List UInt8) (cut : Int) (h : SA w0 g s w) (hf : BS w a cap fates) (hoff : OffS w0 w g a fates) (hcut : -9223372036854775808 ≤ cut ∧ cut ≤ 9223372036854775807) :
    Calls Tryd.prog 43 #[.pointer (some ⟨g, 0, none⟩), .slice a fates.length cap, .int .i64 cut] w fun e w' => e = .returned (.int .i64 0) ∧ SA w0 g (crashL s fates cut) w' := by
  obtain ⟨⟨d, wv, h1⟩, h2⟩ := h
  refine (crash_calls w _ g d wv s a cap fates cut h1 hf ?_ hcut).mono fun e w' ht => SA.to h1 h2 ht
  refine hoff.imp id fun hoff x hx hm => ?_
  rcases hoff x hx with h | h
  · have := (h1.in_ge _ hm).1; omega
  · exact h d wv s h1 hm

theorem sa_read (w0 w : World) (g : Nat) (s : Sl) (i : Int) (h : SA w0 g s w) (hi : -9223372036854775808 ≤ i ∧ i ≤ 9223372036854775807) :
    Calls Tryd.prog 82 #[.pointer (some ⟨g, 0, none⟩), .int .i64 i] w fun e w' => ∃ v, e = .returned (.tuple #[v, .int .i64 ((readL s i).2 : Int)]) ∧ OB w' w.heap.size 5 v (readL s i).1 ∧ Below w.heap.size w w' ∧ SA w0 g s w' := by
  obtain ⟨⟨d, wv, h1⟩, h2⟩ := h
  refine (read_any w _ g d wv s i h1 hi).mono ?_
  rintro e w' ⟨v, rfl, h3, hb⟩
  exact ⟨v, rfl, h3, hb, ⟨d, wv, h1.below hb⟩, h2.trans (hb.mono h2.size)⟩

theorem sa_new (w : World) (n : Nat) (h : 1 ≤ n ∧ n ≤ 4096) : Calls Tryd.prog 12 #[.int .i64 (n : Int)] w fun e w' => ∃ g, e = .returned (.tuple #[.pointer (some ⟨g, 0, none⟩), .int .i64 0]) ∧ SA w g (newL n) w' := by
  refine (newslab_calls w n h).mono ?_
  rintro e w' ⟨g, d, rfl, h1, h2⟩
  exact ⟨g, rfl, ⟨d, _, h1⟩, h2⟩

theorem SA.off_new {w0 w w' : World} {g : Nat} {s : Sl} (h : SA w0 g s w) (hb : Below w.heap.size w w') {a : Option Addr} (ha : ∀ x, a = some x → w.heap.size ≤ x.block) {t : List UInt8} : OffS w0 w' g a t := by
  obtain ⟨⟨d, wv, h1⟩, h2⟩ := h
  refine .inr fun x hx => ?_
  right
  intro d' wv' s' h' hm
  have e0 := (h'.own.get 0 rfl).symm.trans ((h1.below hb).own.get 0 rfl)
  have e1 := (h'.own.get 1 rfl).symm.trans ((h1.below hb).own.get 1 rfl)
  simp only [Option.some.injEq, Value.slice.injEq, Addr.mk.injEq] at e0 e1
  obtain ⟨⟨hd, _⟩, _⟩ := e0
  subst hd e1
  have := (h1.in_ge _ hm).2
  have := ha x hx
  omega

theorem SA.off_old {w0 w : World} {g : Nat} {a : Option Addr} {t : List UInt8} {W : World} {cap : Nat} (h : BS W a cap t) (hs : W.heap.size ≤ w0.heap.size) : OffS w0 w g a t := by
  by_cases ht : t = []
  · exact .inl ht
  · obtain ⟨b, off, rfl, hc⟩ := CS.at h (by simpa using List.length_pos_iff.2 ht)
    have hlt := World.block_lt_of_cell? W ⟨b, off + 0, none⟩ (hc 0 _ (List.getElem?_eq_getElem (by simpa using List.length_pos_iff.2 ht)))
    refine .inr fun x hx => .inl ?_
    cases hx
    have : b < W.heap.size := hlt
    show b < _
    omega


end Go.Proofs.YtoapibbbooongaaDoor

/- The scripts of layer 5; what is flushed is kept. -/
namespace Go.Proofs.YtoapibbbooongaaDoor
open Go.RowKit Go.Quad _root_.Quad.Slab

/-! ### the scripts of this layer -/
structure OpD where
  d : Nat
  i : Int
  a : Option Addr
  cap : Nat
  t : List UInt8

def opV (o : OpD) : List Value := [.int .u8 (o.d : Int), .int .i64 o.i, .slice o.a o.t.length o.cap]
theorem opV_length (o : OpD) : (opV o).length = 3 := rfl
def OkOp (w : World) (o : OpD) : Prop := o.d < 256 ∧ (-9223372036854775808 ≤ o.i ∧ o.i ≤ 9223372036854775807) ∧ BS w o.a o.cap o.t

/-! ### one sector is kept -/
structure Keeps (q : Bytes) (n : Nat) (s : Sl) : Prop where
  len : s.done.length = 8
  at3 : s.done.getD 3 [] = q
  way : ∀ w ∈ s.way, w.1 ≠ 3
  steps : s.steps ≤ n + 2
  ways : s.way.length ≤ n

theorem Keeps.more {q : Bytes} {n : Nat} {s : Sl} (h : Keeps q n s) : Keeps q (n + 1) s := ⟨h.len, h.at3, h.way, by have := h.steps; omega, by have := h.ways; omega⟩

theorem Keeps.write {q : Bytes} {n : Nat} {s : Sl} (h : Keeps q n s) (i : Int) (t : Bytes) (hi : i ≠ 3) : Keeps q (n + 1) (writeL s i t).1 := by
  unfold writeL
  split
  · exact h.more
  · rename_i h0
    have h0 : hasL s i t.length = 0 := by simpa using h0
    have hin := hasL_in h0
    refine ⟨h.len, h.at3, ?_, by have := h.steps; show s.steps + 1 ≤ _; omega, by have := h.ways; simp; omega⟩
    intro w hw
    rcases List.mem_append.1 hw with hw | hw
    · exact h.way w hw
    · rw [List.mem_singleton] at hw
      subst hw
      show i.toNat ≠ 3
      omega
theorem Keeps.arm {q : Bytes} {n : Nat} {s : Sl} (h : Keeps q n s) (i : Int) : Keeps q (n + 1) (armL s i).1 := by
  unfold armL
  split
  · exact h.more
  · exact ⟨h.len, h.at3, h.way, by have := h.steps; show s.steps ≤ _; omega, by have := h.ways; show s.way.length ≤ _; omega⟩
theorem foldl_set_keep (i : Nat) : ∀ (l : List (Nat × Bytes)) (D : List Bytes), (∀ w ∈ l, w.1 ≠ i) → (l.foldl (fun d w => d.set w.1 w.2) D).getD i [] = D.getD i [] ∧ (l.foldl (fun d w => d.set w.1 w.2) D).length = D.length
  | [], D, _ => ⟨rfl, rfl⟩
  | x :: l, D, h => by
    have ih := foldl_set_keep i l (D.set x.1 x.2) fun w hw => h w (List.mem_cons_of_mem _ hw)
    rw [List.foldl_cons]
    refine ⟨ih.1.trans ?_, ih.2.trans (by simp)⟩
    rw [List.getD_eq_getElem?_getD, List.getElem?_set_ne (h x (List.mem_cons_self ..)), List.getD_eq_getElem?_getD]
theorem crashD_keep (fates : Bytes) (c i : Nat) : ∀ (l : List (Nat × Bytes)) (j : Nat) (D : List Bytes), (∀ w ∈ l, w.1 ≠ i) → (crashD fates c j l D).getD i [] = D.getD i []
  | [], _, D, _ => rfl
  | x :: l, j, D, h => by
    unfold crashD
    rw [crashD_keep fates c i l (j + 1) _ fun w hw => h w (List.mem_cons_of_mem _ hw)]
    rw [List.getD_eq_getElem?_getD, List.getElem?_set_ne (h x (List.mem_cons_self ..)), List.getD_eq_getElem?_getD]
theorem Keeps.flush {q : Bytes} {n : Nat} {s : Sl} (h : Keeps q n s) : Keeps q (n + 1) (flushL s).1 := by
  unfold flushL
  split
  · exact h.more
  · split
    · exact ⟨h.len, h.at3, h.way, by have := h.steps; show s.steps + 1 ≤ _; omega, by have := h.ways; show s.way.length ≤ _; omega⟩
    · have hk := foldl_set_keep 3 s.way s.done h.way
      exact ⟨hk.2.trans h.len, hk.1.trans h.at3, by simp, by have := h.steps; show s.steps + 1 ≤ _; omega, by simp⟩
theorem Keeps.end' {q : Bytes} {n : Nat} {s : Sl} (h : Keeps q n s) (fates : Bytes) (cut : Int) : readL (crashL s fates cut) 3 = (q, 0) := by
  have hl : (crashL s fates cut).done.length = 8 := (crashD_length fates (cutOf cut) s.way 0 s.done).trans h.len
  have h0 : hasL (crashL s fates cut) 3 0 = 0 := by
    unfold hasL
    rw [if_neg (by rw [hl]; omega), if_neg (by omega), if_neg (by simp [crashL])]
  unfold readL
  rw [if_neg (by rw [h0]; simp)]
  unfold seenL
  show ((crashD fates (cutOf cut) 0 s.way s.done).getD 3 [], 0) = _
  rw [crashD_keep fates (cutOf cut) 3 s.way 0 s.done h.way, h.at3]
theorem keeps_start (p : Bytes) (h : p.length ≤ 128) : (writeL (newL 8) 3 p).2 = 0 ∧ (flushL (writeL (newL 8) 3 p).1).2 = 0 ∧ Keeps (pad p) 0 (flushL (writeL (newL 8) 3 p).1).1 ∧ (writeL (newL 8) 3 p).1.steps < 1000000 := by
  have e : hasL (newL 8) 3 p.length = 0 := by unfold hasL newL; simp; omega
  have e1 : writeL (newL 8) 3 p = ({ stepL (newL 8) with way := [(3, pad p)] }, 0) := by unfold writeL; rw [e]; simp [stepL, newL]
  rw [e1]
  refine ⟨rfl, by simp [flushL, stepL, newL], ?_, by simp [stepL, newL]⟩
  have e2 : (flushL { stepL (newL 8) with way := [(3, pad p)] }).1 = ⟨(List.replicate 8 (List.replicate 128 0)).set 3 (pad p), [], false, 0, 2⟩ := by simp [flushL, stepL, newL]
  rw [e2]
  exact ⟨by simp, by simp, by simp, by simp, by simp⟩
end Go.Proofs.YtoapibbbooongaaDoor
