/- The walk of the document's Tick. -/
import Derived.Test.YtolgfemjpkgloaaLeaseH
namespace Go.Proofs.Ytolgfemjpkgloaa
open Go.RowKit Go.Quad _root_.Quad.Lease

/-- three rows of the call's own, apart -/
structure Rt (w0 w : World) (ov : Value) (L : List Nd) (gv : Value) (gs : List (Nat × Nat)) (av : Value) (ws : List Nat) : Prop where
  o : RO ndV 4 w w0.heap.size 52 ov L
  g : RO grV 2 w w0.heap.size 50 gv gs
  a : RO inV 1 w w0.heap.size 3 av ws
  b : Below w0.heap.size w0 w
  og : ∀ q, ov.ownBlock = some q → gv.ownBlock ≠ some q
  oa : ∀ q, ov.ownBlock = some q → av.ownBlock ≠ some q
  ga : ∀ q, gv.ownBlock = some q → av.ownBlock ≠ some q

theorem Rt.below {w0 w w' : World} {ov gv av : Value} {L : List Nd} {gs : List (Nat × Nat)} {ws : List Nat} (h : Rt w0 w ov L gv gs av ws) (hb : Below w.heap.size w w') : Rt w0 w' ov L gv gs av ws :=
  ⟨h.o.below hb, h.g.below hb, h.a.below hb, h.b.trans (hb.mono h.b.size), h.og, h.oa, h.ga⟩

theorem own_new {w : World} {v v' u : Value} (hw : v'.ownBlock = v.ownBlock ∨ v'.ownBlock = some w.heap.size) (hv : ∀ q, v.ownBlock = some q → u.ownBlock ≠ some q) (hu : ∀ q, u.ownBlock = some q → q < w.heap.size) : ∀ q, v'.ownBlock = some q → u.ownBlock ≠ some q := by
  intro q hq he
  rcases hw with e | e
  · rw [e] at hq; exact hv q hq he
  · rw [e] at hq; cases hq; have := hu _ he; omega

theorem Rt.o' {w0 w w' : World} {ov ov' gv av : Value} {L L' : List Nd} {gs : List (Nat × Nat)} {ws : List Nat} (h : Rt w0 w ov L gv gs av ws) (ho : RO ndV 4 w' w0.heap.size 52 ov' L') (hb : Below w0.heap.size w w')
    (hg : w.grownBy w' ov.ownBlock) (hw : ov'.ownBlock = ov.ownBlock ∨ ov'.ownBlock = some w.heap.size) : Rt w0 w' ov' L' gv gs av ws :=
  ⟨ho, h.g.chg (chg_grown hg) (fun k hk hm => h.og k (by simpa using hm) hk), h.a.chg (chg_grown hg) (fun k hk hm => h.oa k (by simpa using hm) hk), h.b.trans hb,
   own_new hw h.og fun q hq => (h.g.ownBlock q hq).2, own_new hw h.oa fun q hq => (h.a.ownBlock q hq).2, h.ga⟩
theorem Rt.g' {w0 w w' : World} {ov gv gv' av : Value} {L : List Nd} {gs gs' : List (Nat × Nat)} {ws : List Nat} (h : Rt w0 w ov L gv gs av ws) (ho : RO grV 2 w' w0.heap.size 50 gv' gs') (hb : Below w0.heap.size w w')
    (hg : w.grownBy w' gv.ownBlock) (hw : gv'.ownBlock = gv.ownBlock ∨ gv'.ownBlock = some w.heap.size) : Rt w0 w' ov L gv' gs' av ws :=
  ⟨h.o.chg (chg_grown hg) (fun k hk hm => h.og k hk (by simpa using hm)), ho, h.a.chg (chg_grown hg) (fun k hk hm => h.ga k (by simpa using hm) hk), h.b.trans hb,
   fun q hq he => own_new (u := ov) hw (fun q hq he => h.og q he hq) (fun q hq => (h.o.ownBlock q hq).2) q he hq, h.oa, own_new hw h.ga fun q hq => (h.a.ownBlock q hq).2⟩
theorem Rt.a' {w0 w w' : World} {ov gv av av' : Value} {L : List Nd} {gs : List (Nat × Nat)} {ws ws' : List Nat} (h : Rt w0 w ov L gv gs av ws) (ho : RO inV 1 w' w0.heap.size 3 av' ws') (hb : Below w0.heap.size w w')
    (hg : w.grownBy w' av.ownBlock) (hw : av'.ownBlock = av.ownBlock ∨ av'.ownBlock = some w.heap.size) : Rt w0 w' ov L gv gs av' ws' :=
  ⟨h.o.chg (chg_grown hg) (fun k hk hm => h.oa k hk (by simpa using hm)), h.g.chg (chg_grown hg) (fun k hk hm => h.ga k hk (by simpa using hm)), ho, h.b.trans hb, h.og,
   fun q hq he => own_new (u := ov) hw (fun q hq he => h.oa q he hq) (fun q hq => (h.o.ownBlock q hq).2) q he hq, fun q hq he => own_new (u := gv) hw (fun q hq he => h.ga q he hq) (fun q hq => (h.g.ownBlock q hq).2) q he hq⟩

/-- what the document's tick answers -/
def RefTickTo (w : World) (r : List Nd × List (Nat × Nat) × List Nat) (e : Ending) (w' : World) : Prop :=
  ∃ ov gv av, e = .returned (.tuple #[ov, gv, av]) ∧ Rt w w' ov r.1 gv r.2.1 av r.2.2

def RtRel (w0 : World) (l : List Nd) (now : Nat) (ov gv av i : Value) (w : World) : Prop :=
  ∃ k : Nat, i = .int .i64 (k : Int) ∧ k ≤ l.length ∧ Rt w0 w ov (tickN (l.take k) 0 now).1 gv (tickN (l.take k) 0 now).2.1 av (tickN (l.take k) 0 now).2.2

set_option maxRecDepth 20000 in
set_option maxHeartbeats 8000000 in
theorem reftick_calls (w : World) (a : Option Addr) (n cap : Nat) (l : List Nd) (now : Nat) (h : RN w a cap l) (hL : l.length = n) (hn : now ≤ 4294967295) :
    Calls Try.prog 14 #[.slice a n cap, .int .u32 (now : Int)] w (RefTickTo w (tickN l 0 now)) := by
  have hls : (n : Int) ≤ 16 := by have := h.small; omega
  have HL := hid hL
  have H := hid h
  have hn' : (now : Int) ≤ 4294967295 := by omega
  clear h hL
  go_enter Try.func14, Try.ntmps14
  go_wp2_with fail
  go_loopw [7, 8, 9, 14] (fun ov gv av i wr => RtRel w l now ov gv av i wr) (fun _ _ _ i _ => n - (intOf i).toNat)
  case atStart => exact ⟨0, rfl, Nat.zero_le _, ⟨RO.nil _ _ _ _ _, RO.nil _ _ _ _ _, RO.nil _ _ _ _ _, Below.refl _ _, by simp [Value.ownBlock], by simp [Value.ownBlock], by simp [Value.ownBlock]⟩⟩
  case round =>
    obtain ⟨k, rfl, hk, hT⟩ := hrel
    have T := hid hT
    clear hT
    rw [HL.out] at hk
    by_cases hkn : k < n
    · have hkl : k < l.length := by rw [HL.out]; exact hkn
      have hkl' : (k : Int) < (n : Int) := by omega
      obtain ⟨b0, off, rfl, hc⟩ := cs_row ndV_length H.out.row hkl (by decide)
      have d0 := cell_later T.out.b (hc 0 _ rfl)
      have d1 := cell_later T.out.b (hc 1 _ rfl)
      have d2 := cell_later T.out.b (hc 2 _ rfl)
      have d3 := cell_later T.out.b (hc 3 _ rfl)
      rw [Nat.add_zero] at d0
      clear hc
      have hok := H.out.ok _ (List.getElem_mem hkl)
      have Nx := hid (tk_next l now hkl)
      have Len := hid (tickN_le (l.take k) 0 now)
      have Ln1 := hid (tickN_length (l.take k) 0 now)
      have Ltk := hid (show (l.take k).length ≤ 16 by rw [List.length_take]; omega)
      generalize l[k] = x at d0 d1 d2 d3 hok Nx
      obtain ⟨st, lf, hd, un⟩ := x
      obtain ⟨o1, o2, o3, o4⟩ := hok
      dsimp only at d0 d1 d2 d3 o1 o2 o3 o4
      have TB := hid (fun W (hb : Below wr.heap.size wr W) => T.out.below hb)
      have Hk := hid hkn
      have NoA : Kept (wr.heap.size ∉ u9.ownBlock.toList) := ⟨fun hm => by have := (T.out.a.ownBlock _ (by simpa using hm)).2; omega⟩
      have NoG : Kept (wr.heap.size ∉ u8.ownBlock.toList) := ⟨fun hm => by have := (T.out.g.ownBlock _ (by simpa using hm)).2; omega⟩
      have SrcA : Kept (∀ (W : World) q, W.heap.size = q → CS (W.alloc (.cells #[.int .i64 (k : Int)] 3)) (some ⟨q, 0, none⟩) 1 1 [.int .i64 (k : Int)]) := ⟨fun W q hW => by rw [← hW]; exact cs_lit W [.int .i64 (k : Int)] 3 1 1 rfl (by simp [maxLen])⟩
      have SrcG : Kept (∀ (W : World) q, W.heap.size = q → CS (W.alloc (.cells #[.int .i64 (k : Int), .int .u32 ((max un (later8 now) : Nat) : Int)] 50)).drew (some ⟨q, 0, none⟩) 1 2 [.int .i64 (k : Int), .int .u32 ((max un (later8 now) : Nat) : Int)]) := ⟨fun W q hW => by rw [← hW]; exact (cs_lit W [.int .i64 (k : Int), .int .u32 ((max un (later8 now) : Nat) : Int)] 50 1 2 rfl (by simp [maxLen])).below (below_drew _)⟩
      have SrcN : Kept (∀ (x : Nd) (W : World) q, W.heap.size = q → CS (W.alloc (.cells (ndV x).toArray 52)) (some ⟨q, 0, none⟩) 1 4 (ndV x)) := ⟨fun x W q hW => by rw [← hW]; exact cs_lit W (ndV x) 52 1 4 rfl (by simp [maxLen])⟩
      by_cases s0 : st = 0
      · subst s0
        have N1 := hid (show tickN (l.take (k + 1)) 0 now = ((tickN (l.take k) 0 now).1 ++ [⟨0, lf, hd, un⟩], (tickN (l.take k) 0 now).2.1, (tickN (l.take k) 0 now).2.2) from by
          rw [Nx.out, show tick1 ⟨0, lf, hd, un⟩ now = (⟨0, lf, hd, un⟩, false, false) from by unfold tick1; dsimp only; rw [if_neg (by omega), if_pos (by omega)]]
          simp)
        go_wp2_with (at_builtin; go_must (refine wpList_append_ro ndV_length ndV_one (by decide) (.tmp 62) (.tmp 64) _ rfl rfl w.heap.size 52 _ 16 info_rnode rfl under_rnodes _ _ ((TB.out _ (by repeat (first | exact Below.refl _ _ | refine below_drewN ?_ _ | refine Below.drew ?_ | refine Below.alloc ?_ (by simp) _ | refine Below.setCell ?_ (by simp) _)))).o rfl (l' := [⟨0, lf, hd, un⟩]) rfl (SrcN.out ⟨0, lf, hd, un⟩ _ _ (by first | rfl | simp)) (Nat.le_refl _) rfl (by have := Len.out; have := Ltk.out; have := Ln1.out; simp; omega) ((TB.out _ (by repeat (first | exact Below.refl _ _ | refine below_drewN ?_ _ | refine Below.drew ?_ | refine Below.alloc ?_ (by simp) _ | refine Below.setCell ?_ (by simp) _)))).b.size ?_; intro v7 w7 ho7 hb7 hg7 hw7; have T7 := hid (((TB.out _ (by repeat (first | exact Below.refl _ _ | refine below_drewN ?_ _ | refine Below.drew ?_ | refine Below.alloc ?_ (by simp) _ | refine Below.setCell ?_ (by simp) _)))).o' ho7 hb7 hg7 hw7); clear ho7 hb7 hg7 hw7))
        have RR : RtRel w l now v7 _ _ (.int .i64 ((k : Int) + 1)) w7 := ⟨k + 1, by go_num, by have := Hk.out; have := HL.out; omega, by rw [N1.out]; exact T7.out⟩
        refine ⟨?_, by simp [intOf]; have := Hk.out; omega⟩
        first | exact RR | ((repeat apply Exists.intro); refine ⟨RR, ?_⟩; and_intros <;> rfl)
      by_cases s2 : st = 2
      · subst s2
        by_cases hlt : un < now
        · have q3 : (un : Int) < (now : Int) := by omega
          have N1 := hid (show tickN (l.take (k + 1)) 0 now = ((tickN (l.take k) 0 now).1 ++ [⟨0, lf, hd, un⟩], (tickN (l.take k) 0 now).2.1, (tickN (l.take k) 0 now).2.2 ++ [k]) from by
            rw [Nx.out, show tick1 ⟨2, lf, hd, un⟩ now = (⟨0, lf, hd, un⟩, false, true) from by unfold tick1; dsimp only; rw [if_neg (by omega), if_neg (by omega), if_pos (by omega)]]
            simp)
          go_wp2_with (first | (at_builtin; refine wpList_append_ro inV_length inV_one (by decide) (.tmp 58) (.tmp 60) _ rfl rfl w.heap.size 3 _ 8 info_int rfl under_ints _ _ ((TB.out _ (by repeat (first | exact Below.refl _ _ | refine below_drewN ?_ _ | refine Below.drew ?_ | refine Below.alloc ?_ (by simp) _ | refine Below.setCell ?_ (by simp) _)))).a rfl (l' := [k]) rfl (SrcA.out _ _ (by first | rfl | simp)) (Nat.le_refl _) rfl (by have := Len.out; have := Ltk.out; have := Ln1.out; simp; omega) ((TB.out _ (by repeat (first | exact Below.refl _ _ | refine below_drewN ?_ _ | refine Below.drew ?_ | refine Below.alloc ?_ (by simp) _ | refine Below.setCell ?_ (by simp) _)))).b.size ?_; intro v6 w6 ho6 hb6 hg6 hw6; have T6 := hid (((TB.out _ (by repeat (first | exact Below.refl _ _ | refine below_drewN ?_ _ | refine Below.drew ?_ | refine Below.alloc ?_ (by simp) _ | refine Below.setCell ?_ (by simp) _)))).a' ho6 hb6 hg6 hw6); have Bq := (((blk_alloc wr (ndV ⟨0, lf, hd, un⟩) 52).below (below_alloc _ _))).keep (chg_grown hg6) NoA.out; have z0 := Bq.get 0 rfl; have z1 := Bq.get 1 rfl; have z2 := Bq.get 2 rfl; have z3 := Bq.get 3 rfl; clear Bq ho6 hb6 hg6 hw6) | (at_builtin; refine wpList_append_ro ndV_length ndV_one (by decide) (.tmp 62) (.tmp 64) _ rfl rfl w.heap.size 52 _ 16 info_rnode rfl under_rnodes _ _ ((T6.out.below (below_alloc _ _))).o rfl (l' := [⟨0, lf, hd, un⟩]) rfl (SrcN.out ⟨0, lf, hd, un⟩ _ _ (by first | rfl | simp)) (Nat.le_refl _) rfl (by have := Len.out; have := Ltk.out; have := Ln1.out; simp; omega) ((T6.out.below (below_alloc _ _))).b.size ?_; intro v7 w7 ho7 hb7 hg7 hw7; have T7 := hid (((T6.out.below (below_alloc _ _))).o' ho7 hb7 hg7 hw7); clear ho7 hb7 hg7 hw7))
          have RR : RtRel w l now v7 _ v6 (.int .i64 ((k : Int) + 1)) w7 := ⟨k + 1, by go_num, by have := Hk.out; have := HL.out; omega, by rw [N1.out]; exact T7.out⟩
          refine ⟨?_, by simp [intOf]; have := Hk.out; omega⟩
          first | exact RR | ((repeat apply Exists.intro); refine ⟨RR, ?_⟩; and_intros <;> rfl)
        · have q3 : ¬ ((un : Int) < (now : Int)) := by omega
          have N1 := hid (show tickN (l.take (k + 1)) 0 now = ((tickN (l.take k) 0 now).1 ++ [⟨2, lf, hd, un⟩], (tickN (l.take k) 0 now).2.1, (tickN (l.take k) 0 now).2.2) from by
            rw [Nx.out, show tick1 ⟨2, lf, hd, un⟩ now = (⟨2, lf, hd, un⟩, false, false) from by unfold tick1; dsimp only; rw [if_neg (by omega), if_neg (by omega), if_neg (by omega)]]
            simp)
          go_wp2_with (at_builtin; go_must (refine wpList_append_ro ndV_length ndV_one (by decide) (.tmp 62) (.tmp 64) _ rfl rfl w.heap.size 52 _ 16 info_rnode rfl under_rnodes _ _ ((TB.out _ (by repeat (first | exact Below.refl _ _ | refine below_drewN ?_ _ | refine Below.drew ?_ | refine Below.alloc ?_ (by simp) _ | refine Below.setCell ?_ (by simp) _)))).o rfl (l' := [⟨2, lf, hd, un⟩]) rfl (SrcN.out ⟨2, lf, hd, un⟩ _ _ (by first | rfl | simp)) (Nat.le_refl _) rfl (by have := Len.out; have := Ltk.out; have := Ln1.out; simp; omega) ((TB.out _ (by repeat (first | exact Below.refl _ _ | refine below_drewN ?_ _ | refine Below.drew ?_ | refine Below.alloc ?_ (by simp) _ | refine Below.setCell ?_ (by simp) _)))).b.size ?_; intro v7 w7 ho7 hb7 hg7 hw7; have T7 := hid (((TB.out _ (by repeat (first | exact Below.refl _ _ | refine below_drewN ?_ _ | refine Below.drew ?_ | refine Below.alloc ?_ (by simp) _ | refine Below.setCell ?_ (by simp) _)))).o' ho7 hb7 hg7 hw7); clear ho7 hb7 hg7 hw7))
          have RR : RtRel w l now v7 _ _ (.int .i64 ((k : Int) + 1)) w7 := ⟨k + 1, by go_num, by have := Hk.out; have := HL.out; omega, by rw [N1.out]; exact T7.out⟩
          refine ⟨?_, by simp [intOf]; have := Hk.out; omega⟩
          first | exact RR | ((repeat apply Exists.intro); refine ⟨RR, ?_⟩; and_intros <;> rfl)
      obtain rfl : st = 1 := by omega
      by_cases hq : hd ≤ now ∧ 4 ≤ now - hd
      · have q2 : (4 : Int) ≤ (now : Int) - (hd : Int) := by omega
        by_cases hlt : un < now
        · have q3 : (un : Int) < (now : Int) := by omega
          have N1 := hid (show tickN (l.take (k + 1)) 0 now = ((tickN (l.take k) 0 now).1 ++ [⟨0, lf, hd, un⟩], (tickN (l.take k) 0 now).2.1, (tickN (l.take k) 0 now).2.2 ++ [k]) from by
            rw [Nx.out, show tick1 ⟨1, lf, hd, un⟩ now = (⟨0, lf, hd, un⟩, false, true) from by unfold tick1; dsimp only; rw [if_neg (by omega), if_neg (by omega), if_pos (by omega)]]
            simp)
          go_wp2_with (first | (at_builtin; refine wpList_append_ro inV_length inV_one (by decide) (.tmp 58) (.tmp 60) _ rfl rfl w.heap.size 3 _ 8 info_int rfl under_ints _ _ ((TB.out _ (by repeat (first | exact Below.refl _ _ | refine below_drewN ?_ _ | refine Below.drew ?_ | refine Below.alloc ?_ (by simp) _ | refine Below.setCell ?_ (by simp) _)))).a rfl (l' := [k]) rfl (SrcA.out _ _ (by first | rfl | simp)) (Nat.le_refl _) rfl (by have := Len.out; have := Ltk.out; have := Ln1.out; simp; omega) ((TB.out _ (by repeat (first | exact Below.refl _ _ | refine below_drewN ?_ _ | refine Below.drew ?_ | refine Below.alloc ?_ (by simp) _ | refine Below.setCell ?_ (by simp) _)))).b.size ?_; intro v6 w6 ho6 hb6 hg6 hw6; have T6 := hid (((TB.out _ (by repeat (first | exact Below.refl _ _ | refine below_drewN ?_ _ | refine Below.drew ?_ | refine Below.alloc ?_ (by simp) _ | refine Below.setCell ?_ (by simp) _)))).a' ho6 hb6 hg6 hw6); have Bq := (((blk_alloc wr (ndV ⟨0, lf, hd, un⟩) 52).below (below_alloc _ _))).keep (chg_grown hg6) NoA.out; have z0 := Bq.get 0 rfl; have z1 := Bq.get 1 rfl; have z2 := Bq.get 2 rfl; have z3 := Bq.get 3 rfl; clear Bq ho6 hb6 hg6 hw6) | (at_builtin; refine wpList_append_ro ndV_length ndV_one (by decide) (.tmp 62) (.tmp 64) _ rfl rfl w.heap.size 52 _ 16 info_rnode rfl under_rnodes _ _ ((T6.out.below (below_alloc _ _))).o rfl (l' := [⟨0, lf, hd, un⟩]) rfl (SrcN.out ⟨0, lf, hd, un⟩ _ _ (by first | rfl | simp)) (Nat.le_refl _) rfl (by have := Len.out; have := Ltk.out; have := Ln1.out; simp; omega) ((T6.out.below (below_alloc _ _))).b.size ?_; intro v7 w7 ho7 hb7 hg7 hw7; have T7 := hid (((T6.out.below (below_alloc _ _))).o' ho7 hb7 hg7 hw7); clear ho7 hb7 hg7 hw7))
          have RR : RtRel w l now v7 _ v6 (.int .i64 ((k : Int) + 1)) w7 := ⟨k + 1, by go_num, by have := Hk.out; have := HL.out; omega, by rw [N1.out]; exact T7.out⟩
          refine ⟨?_, by simp [intOf]; have := Hk.out; omega⟩
          first | exact RR | ((repeat apply Exists.intro); refine ⟨RR, ?_⟩; and_intros <;> rfl)
        · have q3 : ¬ ((un : Int) < (now : Int)) := by omega
          have N1 := hid (show tickN (l.take (k + 1)) 0 now = ((tickN (l.take k) 0 now).1 ++ [⟨2, lf, hd, un⟩], (tickN (l.take k) 0 now).2.1, (tickN (l.take k) 0 now).2.2) from by
            rw [Nx.out, show tick1 ⟨1, lf, hd, un⟩ now = (⟨2, lf, hd, un⟩, false, false) from by unfold tick1; dsimp only; rw [if_neg (by omega), if_neg (by omega), if_neg (by omega)]]
            simp)
          go_wp2_with (at_builtin; go_must (refine wpList_append_ro ndV_length ndV_one (by decide) (.tmp 62) (.tmp 64) _ rfl rfl w.heap.size 52 _ 16 info_rnode rfl under_rnodes _ _ ((TB.out _ (by repeat (first | exact Below.refl _ _ | refine below_drewN ?_ _ | refine Below.drew ?_ | refine Below.alloc ?_ (by simp) _ | refine Below.setCell ?_ (by simp) _)))).o rfl (l' := [⟨2, lf, hd, un⟩]) rfl (SrcN.out ⟨2, lf, hd, un⟩ _ _ (by first | rfl | simp)) (Nat.le_refl _) rfl (by have := Len.out; have := Ltk.out; have := Ln1.out; simp; omega) ((TB.out _ (by repeat (first | exact Below.refl _ _ | refine below_drewN ?_ _ | refine Below.drew ?_ | refine Below.alloc ?_ (by simp) _ | refine Below.setCell ?_ (by simp) _)))).b.size ?_; intro v7 w7 ho7 hb7 hg7 hw7; have T7 := hid (((TB.out _ (by repeat (first | exact Below.refl _ _ | refine below_drewN ?_ _ | refine Below.drew ?_ | refine Below.alloc ?_ (by simp) _ | refine Below.setCell ?_ (by simp) _)))).o' ho7 hb7 hg7 hw7); clear ho7 hb7 hg7 hw7))
          have RR : RtRel w l now v7 _ _ (.int .i64 ((k : Int) + 1)) w7 := ⟨k + 1, by go_num, by have := Hk.out; have := HL.out; omega, by rw [N1.out]; exact T7.out⟩
          refine ⟨?_, by simp [intOf]; have := Hk.out; omega⟩
          first | exact RR | ((repeat apply Exists.intro); refine ⟨RR, ?_⟩; and_intros <;> rfl)
      · have q2 : ¬ ((4 : Int) ≤ (now : Int) - (hd : Int)) := by omega
        have hmx : (if un < later8 now then (later8 now : Int) else (un : Int)) = ((max un (later8 now) : Nat) : Int) := by split <;> omega
        have Hmx := hid hmx
        clear hmx
        have N1 := hid (show tickN (l.take (k + 1)) 0 now = ((tickN (l.take k) 0 now).1 ++ [⟨1, lf, hd, max un (later8 now)⟩], (tickN (l.take k) 0 now).2.1 ++ [(k, max un (later8 now))], (tickN (l.take k) 0 now).2.2) from by
          rw [Nx.out, show tick1 ⟨1, lf, hd, un⟩ now = (⟨1, lf, hd, max un (later8 now)⟩, true, false) from by unfold tick1; dsimp only; rw [if_pos ⟨rfl, by omega⟩]]
          simp)
        go_wp2_with fail
        go_region_with (go_at_call 19; refine (reflater_calls _ now hn).mono ?_; rintro e w' ⟨rfl, rfl⟩)
        all_goals
          (try rw [Hmx.out])
          go_wp2_with (first | (at_builtin; refine wpList_append_ro grV_length grV_one (by decide) (.tmp 41) (.tmp 46) _ rfl rfl w.heap.size 50 _ 16 info_rgrant rfl under_rgrants _ _ ((TB.out _ (by repeat (first | exact Below.refl _ _ | refine below_drewN ?_ _ | refine Below.drew ?_ | refine Below.alloc ?_ (by simp) _ | refine Below.setCell ?_ (by simp) _)))).g rfl (l' := [(k, max un (later8 now))]) rfl (SrcG.out _ _ (by first | rfl | simp)) (Nat.le_refl _) rfl (by have := Len.out; have := Ltk.out; have := Ln1.out; simp; omega) ((TB.out _ (by repeat (first | exact Below.refl _ _ | refine below_drewN ?_ _ | refine Below.drew ?_ | refine Below.alloc ?_ (by simp) _ | refine Below.setCell ?_ (by simp) _)))).b.size ?_; intro v6 w6 ho6 hb6 hg6 hw6; have T6 := hid (((TB.out _ (by repeat (first | exact Below.refl _ _ | refine below_drewN ?_ _ | refine Below.drew ?_ | refine Below.alloc ?_ (by simp) _ | refine Below.setCell ?_ (by simp) _)))).g' ho6 hb6 hg6 hw6); have Bq := (((blk_alloc wr (ndV ⟨1, lf, hd, max un (later8 now)⟩) 52).below (below_alloc _ _)).below (below_drew _)).keep (chg_grown hg6) NoG.out; have z0 := Bq.get 0 rfl; have z1 := Bq.get 1 rfl; have z2 := Bq.get 2 rfl; have z3 := Bq.get 3 rfl; clear Bq ho6 hb6 hg6 hw6) | (at_builtin; refine wpList_append_ro ndV_length ndV_one (by decide) (.tmp 62) (.tmp 64) _ rfl rfl w.heap.size 52 _ 16 info_rnode rfl under_rnodes _ _ ((T6.out.below (below_alloc _ _))).o rfl (l' := [⟨1, lf, hd, max un (later8 now)⟩]) rfl (SrcN.out ⟨1, lf, hd, max un (later8 now)⟩ _ _ (by first | rfl | simp)) (Nat.le_refl _) rfl (by have := Len.out; have := Ltk.out; have := Ln1.out; simp; omega) ((T6.out.below (below_alloc _ _))).b.size ?_; intro v7 w7 ho7 hb7 hg7 hw7; have T7 := hid (((T6.out.below (below_alloc _ _))).o' ho7 hb7 hg7 hw7); clear ho7 hb7 hg7 hw7))
          have RR : RtRel w l now v7 v6 _ (.int .i64 ((k : Int) + 1)) w7 := ⟨k + 1, by go_num, by have := Hk.out; have := HL.out; omega, by rw [N1.out]; exact T7.out⟩
          refine ⟨?_, by simp [intOf]; have := Hk.out; omega⟩
          first | exact RR | ((repeat apply Exists.intro); refine ⟨RR, ?_⟩; and_intros <;> rfl)
    · have hkl' : ¬ ((k : Int) < (n : Int)) := by omega
      have T9 : Kept (Rt w wr u7 (tickN l 0 now).1 u8 (tickN l 0 now).2.1 u9 (tickN l 0 now).2.2) := ⟨by
        have := T.out
        rw [List.take_of_length_le (by rw [HL.out]; omega)] at this
        exact this⟩
      go_wp2_with fail
      go_ret3
      exact ⟨_, _, _, rfl, T9.out⟩
end Go.Proofs.Ytolgfemjpkgloaa
