/- The walks of layer 7's law: alike. -/
import Derived.Test.YtoapibbbooongaaDoorScrRo
namespace Go.Proofs.YtoapibbbooongaaDoor
open Go.RowKit Go.Quad _root_.Quad _root_.Quad.Slab _root_.Quad.Ink

theorem LSc.ok {w0 w : World} {X : Nat → Prop} {g q : Nat} {c : Scr} (h : LSc w0 X g q c w) : c.Ok := by
  obtain ⟨_, _, d, wv, Q, sv, rv, ts, h3, _⟩ := h
  exact h3.scr.ok
theorem XScr.below {w w' : World} {B g q : Nat} {sv rv : Value} {ts : List TS} {c : Scr} (h : XScr w B g q sv rv ts c) (hb : Below w.heap.size w w') : XScr w' B g q sv rv ts c :=
  ⟨h.own.below hb, h.snap.below hb, h.row.chg (Chg.of_below [] hb) (by simp), fun t ht => (h.tx t ht).below hb, h.recs, h.few⟩
theorem XScr.bl {w : World} {B g q : Nat} {sv rv : Value} {ts : List TS} {c : Scr} (h : XScr w B g q sv rv ts c) : BL w AnyB rv c.recs := by
  obtain ⟨ba, bn, bc, rfl, hbn, hbc, hc⟩ := h.row.cs
  subst hbn
  refine ⟨ba, bc, ts.map (fun t => (.slice t.a t.p.length t.c, t.p)), by rw [← h.recs, List.length_map], ?_, ?_, fun x hx => ?_, fun x hx => trivial⟩
  · rw [List.flatMap_map]; exact hc
  · rw [List.map_map, ← h.recs]; rfl
  · obtain ⟨t, ht, rfl⟩ := List.mem_map.1 hx
    exact ⟨t.a, t.c, rfl, h.tx t ht, fun y hy => trivial⟩
set_option maxRecDepth 100000 in
set_option maxHeartbeats 8000000 in
theorem nilalike7_calls (w : World) : Calls Tryd.prog 31 #[.pointer none, .pointer none] w fun e w' => e = .returned (.bool true) ∧ Below w.heap.size w w' := by
  have CE := hid fun W => nilepoch_calls W
  have CS := hid fun W => nilsnap_calls W
  have CR := hid fun W => nilrecs_calls W
  have CL := hid fun W => nilleftS_calls W
  go_enter Tryd.func31, Tryd.ntmps31
  go_wp2_with (first
    | (go_at_call 32; go_must (refine (CE.out _).mono ?_; rintro e w1 ⟨rfl, rfl⟩; dsimp only))
    | (go_at_call 34; go_must (refine (CS.out _).mono ?_; rintro e w2 ⟨v2, rfl, ho2, hb2⟩; obtain ⟨a2, c2, rfl, _, _⟩ := ho2.bs; have B2 := hid hb2; clear ho2 hb2; dsimp only))
    | (go_at_call 36; go_must (refine (CR.out _).mono ?_; rintro e w3 ⟨ts4, bv4, rfl, hm4, htx4, hb4⟩; obtain ⟨a4, n4, c4, rfl, hn4, _, _⟩ := htx4.rb.cs; obtain rfl : n4 = 0 := (by rw [← hn4]; have h := congrArg List.length hm4; rw [List.length_map] at h; exact h); have B3 := hid (B2.out.trans (hb4.mono B2.out.size)); clear hm4 htx4 hb4 hn4; dsimp only))
    | (go_at_call 37; go_must (refine (CL.out _).mono ?_; rintro e w4 ⟨rfl, hb⟩; have B4 := hid (B3.out.trans (hb.mono B3.out.size)); clear hb; dsimp only)))
  go_ret
  exact ⟨rfl, B4.out⟩
set_option maxRecDepth 100000 in
set_option maxHeartbeats 8000000 in
theorem alike7_calls (w0 w : World) (X : Nat → Prop) (g q : Nat) (c : Scr) (B2 g2 q2 : Nat) (sv rv : Value) (ts : List TS) (h : LSc w0 X g q c w) (hx : XScr w B2 g2 q2 sv rv ts c) :
    Calls Tryd.prog 31 #[.pointer (some ⟨q, 0, none⟩), .pointer (some ⟨q2, 0, none⟩)] w fun e w' => e = .returned (.bool true) ∧ Below w.heap.size w w' := by
  have H := hid h
  have HX := hid hx
  have ok := h.ok
  have hnx := ok.next
  have hz : (c.size : Int) ≤ 4096 := by have := ok.size; omega
  have hx' : (c.next : Int) ≤ (c.size : Int) := by omega
  have CE := hid fun (W : World) (hW : Below w.heap.size w W) => lsc_epoch w0 W X g q c (h.below hW)
  have CS := hid fun (W : World) (hW : Below w.heap.size w W) => lsc_snap w0 W X g q c (h.below hW)
  have CR := hid fun (W : World) (hW : Below w.heap.size w W) => lsc_recs w0 W X g q c (h.below hW)
  have CL := hid fun (W : World) (hW : Below w.heap.size w W) => (show Calls Tryd.prog 37 #[.pointer (some ⟨q, 0, none⟩)] W fun e w' => e = .returned (.int .i64 ((c.size : Int) - (c.next : Int))) ∧ Below W.heap.size W w' from by
    have h := lsc_left w0 W X g q c (h.below hW)
    rw [show ((c.size - c.next : Nat) : Int) = (c.size : Int) - (c.next : Int) from by omega] at h
    exact h)
  obtain ⟨sa, sc, rfl, hbs, _⟩ := hx.snap
  obtain ⟨ra, rn, rc, rfl, _, _, _⟩ := hx.row.cs
  obtain ⟨N, hN⟩ : ∃ N, c.snap.length = N := ⟨_, rfl⟩
  have HN := hid hN
  have HBS := hid hbs
  have HFW := hid hx.few
  have MKS := hid fun (W : World) (hW : Below w.heap.size w W) => (show (W.cell? ⟨q2, 1, none⟩ = some (.int .i64 (c.size : Int)) ∧ W.cell? ⟨q2, 3, none⟩ = some (.int .u32 (c.root.epoch : Int)) ∧ W.cell? ⟨q2, 6, none⟩ = some (.int .i64 (c.next : Int)) ∧ W.cell? ⟨q2, 7, none⟩ = some (.slice sa N sc) ∧ W.cell? ⟨q2, 8, none⟩ = some (.slice ra rn rc) ∧ Below w.heap.size w W) from ⟨(HX.out.own.below hW).get 1 rfl, (HX.out.own.below hW).get 3 rfl, (HX.out.own.below hW).get 6 rfl, by rw [← HN.out]; exact (HX.out.own.below hW).get 7 rfl, (HX.out.own.below hW).get 8 rfl, hW⟩)
  have SB := hid fun (W : World) (hW : W.cell? ⟨q2, 1, none⟩ = some (.int .i64 (c.size : Int)) ∧ W.cell? ⟨q2, 3, none⟩ = some (.int .u32 (c.root.epoch : Int)) ∧ W.cell? ⟨q2, 6, none⟩ = some (.int .i64 (c.next : Int)) ∧ W.cell? ⟨q2, 7, none⟩ = some (.slice sa N sc) ∧ W.cell? ⟨q2, 8, none⟩ = some (.slice ra rn rc) ∧ Below w.heap.size w W) => hW.2.2.2.2.2
  clear h hx ok hbs hN hnx
  go_enter Tryd.func31, Tryd.ntmps31
  go_upto_region 3 with fail
  go_region_held_law (fun W => W.cell? ⟨q2, 1, none⟩ = some (.int .i64 (c.size : Int)) ∧ W.cell? ⟨q2, 3, none⟩ = some (.int .u32 (c.root.epoch : Int)) ∧ W.cell? ⟨q2, 6, none⟩ = some (.int .i64 (c.next : Int)) ∧ W.cell? ⟨q2, 7, none⟩ = some (.slice sa N sc) ∧ W.cell? ⟨q2, 8, none⟩ = some (.slice ra rn rc) ∧ Below w.heap.size w W)
    ((refine MKS.out _ ?_; first | with_reducible exact below_drew _ | with_reducible exact L6.out | with_reducible exact L5.out | with_reducible exact L4.out | with_reducible exact L3.out | with_reducible exact L2.out | with_reducible exact Below.refl _ _))
    (first
      | (go_at_call 32; refine (CE.out _ (SB.out _ (by assumption))).mono ?_; rintro e w1 ⟨rfl, rfl⟩)
      | (go_at_call 34; refine (CS.out _ (SB.out _ (by assumption))).mono ?_; rintro e w2 ⟨v2, rfl, ho2, hb2⟩; obtain ⟨a2, c2, rfl, hbs2, _⟩ := ho2.bs; rw [HN.out]; have L2 := hid ((SB.out _ (by assumption)).trans (hb2.mono (SB.out _ (by assumption)).size)); have CS1 := hid (show Calls Tryd.prog 33 #[.slice a2 N c2, .slice sa N sc] w2 (fun e w' => e = .returned (.bool true) ∧ w2 = w') from (by have h := same_calls a2 sa c2 sc c.snap c.snap w2 hbs2 (HBS.out.below L2.out); rw [HN.out, beq_self_eq_true] at h; exact h)); clear ho2 hb2 hbs2)
      | (go_at_call 33; refine CS1.out.mono ?_; rintro e w3 ⟨rfl, rfl⟩)
      | (go_at_call 36; refine (CR.out _ (SB.out _ (by assumption))).mono ?_; rintro e w4 ⟨ts4, bv4, rfl, hm4, htx4, hb4⟩; obtain ⟨a4, n4, c4, rfl, _, _, _⟩ := htx4.rb.cs; have L4 := hid ((SB.out _ (by assumption)).trans (hb4.mono (SB.out _ (by assumption)).size)); have CSM := hid (show Calls Tryd.prog 35 #[.slice a4 n4 c4, .slice ra rn rc] w4 (fun e w' => e = .returned (.bool true) ∧ Below w4.heap.size w4 w') from (by have h1 := htx4.bl; rw [hm4] at h1; refine (same7_calls w4 _ _ a4 n4 c4 _ ra rn rc _ h1 (HX.out.below L4.out).bl HFW.out HFW.out).mono fun e w' h => ⟨by rw [h.1]; simp, h.2⟩)); clear hm4 htx4 hb4)
      | (go_at_call 35; refine CSM.out.mono ?_; rintro e w5 ⟨rfl, hb5⟩; have L5 := hid (L4.out.trans (hb5.mono L4.out.size)); clear hb5)
      | (go_at_call 37; refine (CL.out _ (SB.out _ (by assumption))).mono ?_; rintro e w6 ⟨rfl, hb6⟩; have L6 := hid ((SB.out _ (by assumption)).trans (hb6.mono (SB.out _ (by assumption)).size)); clear hb6))
  all_goals
    rw [wrap_in ((c.size : Int) - (c.next : Int)) (by omega) (by omega), beq_self_eq_true]
    go_wp2_with fail
    go_ret
    exact ⟨rfl, L6.out⟩
end Go.Proofs.YtoapibbbooongaaDoor
