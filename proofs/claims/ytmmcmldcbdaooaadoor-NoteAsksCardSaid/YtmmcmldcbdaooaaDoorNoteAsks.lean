/- NoteAsks: every request and every reply has its bytes, or is refused; it is read again. -/
import Derived.Test.YtmmcmldcbdaooaaDoorNoteK
import Derived.Test.YtmmcmldcbdaooaaDoorNoteN
import Derived.Test.YtmmcmldcbdaooaaDoorNoteAskM
import Derived.Deep.Cut
import Derived.Deep.CutRange
namespace Go.Proofs.YtmmcmldcbdaooaaDoor
open Go.RowKit Go.Quad _root_.Quad _root_.Quad.Ink

theorem list6 {α : Type} {cs : List α} (h : cs.length = 6) : ∃ x0 x1 x2 x3 x4 x5, cs = [x0, x1, x2, x3, x4, x5] := by
  match cs, h with
  | [x0, x1, x2, x3, x4, x5], _ => exact ⟨_, _, _, _, _, _, rfl⟩

theorem req_open {w : World} {v : Value} (h : RV Tryd.prog w 43 v) : ∃ n : ReqD, v = .agg (reqV n).toArray ∧ n.Ok := by
  obtain ⟨cs, rfl, hl, hr⟩ := h.struct Tryd.underlying43
  obtain ⟨x0, x1, x2, x3, x4, x5, x6, rfl⟩ := list7 (hl.trans (by kernel_rfl))
  obtain ⟨z0, e0, w0⟩ := (hr.fld Tryd.underlying43 0 5 0 1 (by kernel_rfl) (by kernel_rfl)).int under_u8
  obtain ⟨z1, e1, w1⟩ := (hr.fld Tryd.underlying43 1 22 1 1 (by kernel_rfl) (by kernel_rfl)).int Tryd.underlying22
  obtain ⟨z2, e2, w2⟩ := (hr.fld Tryd.underlying43 2 5 2 1 (by kernel_rfl) (by kernel_rfl)).int under_u8
  obtain ⟨z3, e3, w3⟩ := (hr.fld Tryd.underlying43 3 5 3 1 (by kernel_rfl) (by kernel_rfl)).int under_u8
  obtain ⟨z4, e4, w4⟩ := (hr.fld Tryd.underlying43 4 3 4 1 (by kernel_rfl) (by kernel_rfl)).int Tryd.underlying3
  obtain ⟨z5, e5, w5⟩ := (hr.fld Tryd.underlying43 5 3 5 1 (by kernel_rfl) (by kernel_rfl)).int Tryd.underlying3
  obtain ⟨z6, e6, w6⟩ := (hr.fld Tryd.underlying43 6 22 6 1 (by kernel_rfl) (by kernel_rfl)).int Tryd.underlying22
  obtain ⟨k0, rfl, u0⟩ := u8_of w0
  obtain ⟨k1, rfl, u1⟩ := u32_of w1
  obtain ⟨k2, rfl, u2⟩ := u8_of w2
  obtain ⟨k3, rfl, u3⟩ := u8_of w3
  have u4 := bounds_i64 w4
  have u5 := bounds_i64 w5
  obtain ⟨k6, rfl, u6⟩ := u32_of w6
  simp only [List.drop_zero, List.drop_succ_cons, List.take_succ_cons, List.take_zero, List.cons.injEq, and_true] at e0 e1 e2 e3 e4 e5 e6
  subst e0 e1 e2 e3 e4 e5 e6
  exact ⟨⟨k0, k1, k2, k3, z4, z5, k6⟩, rfl, ⟨u0, u1, u2, u3, u4, u5, u6⟩⟩

theorem rep_open {w : World} {v : Value} (h : RV Tryd.prog w 45 v) : ∃ n : RepD, v = .agg (repV n).toArray ∧ n.Ok := by
  obtain ⟨cs, rfl, hl, hr⟩ := h.struct Tryd.underlying45
  obtain ⟨x0, x1, x2, x3, x4, x5, rfl⟩ := list6 (hl.trans (by kernel_rfl))
  obtain ⟨z0, e0, w0⟩ := (hr.fld Tryd.underlying45 0 5 0 1 (by kernel_rfl) (by kernel_rfl)).int under_u8
  obtain ⟨z1, e1, w1⟩ := (hr.fld Tryd.underlying45 1 22 1 1 (by kernel_rfl) (by kernel_rfl)).int Tryd.underlying22
  obtain ⟨z2, e2, w2⟩ := (hr.fld Tryd.underlying45 2 29 2 1 (by kernel_rfl) (by kernel_rfl)).int Tryd.underlying29
  obtain ⟨z3, e3, w3⟩ := (hr.fld Tryd.underlying45 3 22 3 1 (by kernel_rfl) (by kernel_rfl)).int Tryd.underlying22
  obtain ⟨z4, e4, w4⟩ := (hr.fld Tryd.underlying45 4 5 4 1 (by kernel_rfl) (by kernel_rfl)).int under_u8
  obtain ⟨z5, e5, w5⟩ := (hr.fld Tryd.underlying45 5 3 5 1 (by kernel_rfl) (by kernel_rfl)).int Tryd.underlying3
  obtain ⟨k0, rfl, u0⟩ := u8_of w0
  obtain ⟨k1, rfl, u1⟩ := u32_of w1
  have u2 := bounds_i64 w2
  obtain ⟨k3, rfl, u3⟩ := u32_of w3
  obtain ⟨k4, rfl, u4⟩ := u8_of w4
  have u5 := bounds_i64 w5
  simp only [List.drop_zero, List.drop_succ_cons, List.take_succ_cons, List.take_zero, List.cons.injEq, and_true] at e0 e1 e2 e3 e4 e5
  subst e0 e1 e2 e3 e4 e5
  exact ⟨⟨k0, k1, z2, k3, k4, z5⟩, rfl, ⟨u0, u1, u2, u3, u4, u5⟩⟩

theorem eq_req (q : ReqD) (w : World) : (binOp .eql 43 (.agg (reqV q).toArray) (.agg (reqV q).toArray)).run Tryd.prog w = .ok (.bool true) w := by
  simp only [reqV]
  go_simp
theorem eq_rep (q : RepD) (w : World) : (binOp .eql 45 (.agg (repV q).toArray) (.agg (repV q).toArray)).run Tryd.prog w = .ok (.bool true) w := by
  simp only [repV]
  go_simp
theorem wpList_pass {P : Program} {w : World} {ops : Array Oper} {rest : List Oper} {o : Oper} {a : Act} {Q : Exit → Act → World → Prop} (hw : Region.wanted o (yielded ops a.tmps) = false) (hp : a.put o.dst undef = a) : wpList P ops Q (o :: rest) a w = wpList P ops Q rest a w := by
  show (if _ then _ else _) = _
  rw [if_neg (by rw [hw]; simp), hp]
theorem readreq_nil : readreqL [] = (reqZ, 2) := readreq_err (by decide)
theorem readrep_nil : readrepL [] = (repZ, 2) := readrep_err (by decide)

set_option maxRecDepth 100000 in
set_option maxHeartbeats 20000000 in
theorem noteAsks_walk (v0 v1 : Value) (w : World) (h0 : RV Tryd.prog w 43 v0) (h1 : RV Tryd.prog w 45 v1) (hq : Laid w) :
    Calls Tryd.prog 5 #[v0, v1] w fun e w' => e = .returned (.bool true) ∧ Below w.heap.size w w' := by
  obtain ⟨q, rfl, ok0⟩ := req_open h0
  obtain ⟨r, rfl, ok1⟩ := rep_open h1
  have OK0 := hid ok0
  have OK1 := hid ok1
  have Hq := hid hq
  clear h0 h1 ok0 ok1 hq
  obtain ⟨g0, hg0⟩ : ∃ g, w.heap.size = g := ⟨_, rfl⟩
  have hb1 := below_alloc w (.cells (reqV q).toArray 43)
  have hb2 := below_alloc (w.alloc (.cells (reqV q).toArray 43)) (.cells (repV r).toArray 45)
  have Z0 := hid (show Blk ((w.alloc (.cells (reqV q).toArray 43)).alloc (.cells (repV r).toArray 45)) g0 (reqV q) 43 from by have := blk_alloc w (reqV q) 43; rw [hg0] at this; exact this.below hb2)
  have Z1 := hid (show Blk ((w.alloc (.cells (reqV q).toArray 43)).alloc (.cells (repV r).toArray 45)) (g0 + 1) (repV r) 45 from by have := blk_alloc (w.alloc (.cells (reqV q).toArray 43)) (repV r) 45; rw [show (w.alloc (.cells (reqV q).toArray 43)).heap.size = g0 + 1 from by rw [← hg0]; simp] at this; exact this)
  have BW := hid (below_step hb1 hb2)
  clear hb1 hb2
  go_enter Tryd.func5, Tryd.ntmps5
  go_wp2_with fail
  generalize ((w.alloc (.cells (reqV q).toArray 43)).alloc (.cells (repV r).toArray 45)) = w0 at Z0 Z1 BW ⊢
  clear hg0
  refine (awake_calls w0 (Hq.out.below BW.out Hq.out.1)).mono ?_
  rintro e w1 ⟨rfl, hb⟩
  replace Z0 := hid (Z0.out.below hb)
  replace Z1 := hid (Z1.out.below hb)
  replace BW := hid (BW.out.trans (hb.mono BW.out.size))
  clear hb
  go_upto_region 3 with fail
  have HM := hid (show (formQ q = true ∧ reqL q = (tieL (encQ q), 0)) ∨ (formQ q = false ∧ reqL q = ([], 4)) from by unfold reqL; cases formQ q <;> simp)
  have HN := hid (show (formR r = true ∧ repL r = (tieL (encR r), 0)) ∨ (formR r = false ∧ repL r = ([], 4)) from by unfold repL; cases formR r <;> simp)
  obtain ⟨y0, hy0⟩ : ∃ y, (reqL q).1 = y := ⟨_, rfl⟩
  obtain ⟨e0, he0⟩ : ∃ y, (reqL q).2 = y := ⟨_, rfl⟩
  obtain ⟨y1, hy1⟩ : ∃ y, (repL r).1 = y := ⟨_, rfl⟩
  obtain ⟨e1, he1⟩ : ∃ y, (repL r).2 = y := ⟨_, rfl⟩
  have HY0 := hid hy0
  have HE0 := hid he0
  have HY1 := hid hy1
  have HE1 := hid he1
  clear hy0 he0 hy1 he1
  repeat (first | (refine wpList_load_blk (o := ⟨some 20, _, _, _, _, _⟩) 43 (.tmp 2) rfl rfl g0 (reqV q) 43 rfl Z0.out ⟨_, Tryd.underlying43, rfl⟩ (by kernel_rfl) ?_) | go_step)
  have hC := req_calls q w1 OK0.out (Hq.out.below BW.out Hq.out.1)
  rw [HY0.out, HE0.out] at hC
  refine hC.mono ?_
  rintro e w2 ⟨v, rfl, ho, hb⟩
  obtain ⟨p0, n0, c0, rfl, hn, hs, _⟩ := ob_n ho
  have P0 := hid hs
  have N0 := hid hn
  replace Z0 := hid (Z0.out.below hb)
  replace Z1 := hid (Z1.out.below hb)
  replace BW := hid (BW.out.trans (hb.mono BW.out.size))
  clear ho hs hn hb hC
  dsimp only
  repeat (first | (refine wpList_load_blk (o := ⟨some 25, _, _, _, _, _⟩) 43 (.tmp 2) rfl rfl g0 (reqV q) 43 rfl Z0.out ⟨_, Tryd.underlying43, rfl⟩ (by kernel_rfl) ?_) | go_step)
  have hC := refreq_calls q w2 OK0.out
  rw [HY0.out, HE0.out] at hC
  refine hC.mono ?_
  rintro e w3 ⟨v, rfl, ho, hb⟩
  obtain ⟨p1, n1, c1, rfl, hn, hs, _⟩ := ob_n ho
  replace P0 := hid (P0.out.below hb)
  have P1 := hid hs
  have N1 := hid hn
  replace Z0 := hid (Z0.out.below hb)
  replace Z1 := hid (Z1.out.below hb)
  replace BW := hid (BW.out.trans (hb.mono BW.out.size))
  clear ho hs hn hb hC
  dsimp only
  repeat (first | (refine wpList_load_blk (o := ⟨some 30, _, _, _, _, _⟩) 45 (.tmp 3) rfl rfl (g0 + 1) (repV r) 45 rfl Z1.out ⟨_, Tryd.underlying45, rfl⟩ (by kernel_rfl) ?_) | go_step)
  have hC := rep_calls r w3 OK1.out (Hq.out.below BW.out Hq.out.1)
  rw [HY1.out, HE1.out] at hC
  refine hC.mono ?_
  rintro e w4 ⟨v, rfl, ho, hb⟩
  obtain ⟨p2, n2, c2, rfl, hn, hs, _⟩ := ob_n ho
  replace P0 := hid (P0.out.below hb)
  replace P1 := hid (P1.out.below hb)
  have P2 := hid hs
  have N2 := hid hn
  replace Z0 := hid (Z0.out.below hb)
  replace Z1 := hid (Z1.out.below hb)
  replace BW := hid (BW.out.trans (hb.mono BW.out.size))
  clear ho hs hn hb hC
  dsimp only
  repeat (first | (refine wpList_load_blk (o := ⟨some 35, _, _, _, _, _⟩) 45 (.tmp 3) rfl rfl (g0 + 1) (repV r) 45 rfl Z1.out ⟨_, Tryd.underlying45, rfl⟩ (by kernel_rfl) ?_) | go_step)
  have hC := refrep_calls r w4 OK1.out
  rw [HY1.out, HE1.out] at hC
  refine hC.mono ?_
  rintro e w5 ⟨v, rfl, ho, hb⟩
  obtain ⟨p3, n3, c3, rfl, hn, hs, _⟩ := ob_n ho
  replace P0 := hid (P0.out.below hb)
  replace P1 := hid (P1.out.below hb)
  replace P2 := hid (P2.out.below hb)
  have P3 := hid hs
  have N3 := hid hn
  replace Z0 := hid (Z0.out.below hb)
  replace Z1 := hid (Z1.out.below hb)
  replace BW := hid (BW.out.trans (hb.mono BW.out.size))
  clear ho hs hn hb hC
  dsimp only
  have NB0 := P0.out.max'
  have NB2 := P2.out.max'
  rcases HM.out with ⟨f0, z0⟩ | ⟨f0, z0⟩ <;> rcases HN.out with ⟨f1, z1⟩ | ⟨f1, z1⟩
  · have LB0 := hid (show y0.length ≤ 100000 from by rw [← HY0.out, z0]; rw [tieL_length]; have := encQ_len OK0.out f0; omega)
    have LB1 := hid (show y1.length ≤ 100000 from by rw [← HY1.out, z1]; rw [tieL_length]; have := encR_len OK1.out f1; omega)
    have RD0 := hid (show readreqL y0 = (q, 0) from by rw [← HY0.out, z0]; exact readreq_enc OK0.out f0)
    have RD1 := hid (show readrepL y1 = (r, 0) from by rw [← HY1.out, z1]; exact readrep_enc OK1.out f1)
    obtain rfl : e0 = 0 := by rw [← HE0.out, z0]
    obtain rfl : e1 = 0 := by rw [← HE1.out, z1]
    clear f0 f1 z0 z1 HM HN HY0 HY1 HE0 HE1
    go_wp2_with fail
    refine (same_n _ _ _ _ _ _ _ _ _ P0.out P1.out N0.out N1.out).mono ?_
    rintro e w' ⟨rfl, rfl⟩
    rw [beq_self_eq_true]
    go_wp2_with fail
    refine (same_n _ _ _ _ _ _ _ _ _ P2.out P3.out N2.out N3.out).mono ?_
    rintro e w' ⟨rfl, rfl⟩
    rw [beq_self_eq_true]
    go_wp2_with fail
    have hC := readreq_calls p0 c0 y0 w5 P0.out (by have := LB0.out; omega) (Hq.out.below BW.out Hq.out.1)
    rw [N0.out, RD0.out] at hC
    refine hC.mono ?_
    rintro e w6 ⟨rfl, hch⟩
    have hb := hch.below0
    replace Z0 := hid (Z0.out.below hb)
    replace Z1 := hid (Z1.out.below hb)
    replace BW := hid (BW.out.trans (hb.mono BW.out.size))
    replace P2 := hid (P2.out.below hb)
    clear hC hch hb
    dsimp only
    repeat (first | (refine wpList_store_blk (o := ⟨none, _, 0, _, _, _⟩) 43 (.tmp 13) (.tmp 62) rfl rfl w6.heap.size [.int .u8 0, .int .u32 0, .int .u8 0, .int .u8 0, .int .i64 0, .int .i64 0, .int .u32 0] (reqV q) 43 rfl rfl (blk_alloc w6 [.int .u8 0, .int .u32 0, .int .u8 0, .int .u8 0, .int .i64 0, .int .i64 0, .int .u32 0] 43) rfl (by kernel_rfl) (by simp [reqV, Value.oneCell']) ?_) | go_step)
    intro wS0 hZS hCS
    have hbS := below_alloc w6 (.cells #[.int .u8 0, .int .u32 0, .int .u8 0, .int .u8 0, .int .i64 0, .int .i64 0, .int .u32 0] 43)
    have hcS := Chg.newer (Chg.of_below [] hbS) hCS (by simp)
    replace Z0 := hid (Z0.out.below hcS.below0)
    replace Z1 := hid (Z1.out.below hcS.below0)
    replace BW := hid (BW.out.trans (hcS.below0.mono BW.out.size))
    have X0 := hid hZS
    obtain ⟨gx0, hgx0⟩ : ∃ g, w6.heap.size = g := ⟨_, rfl⟩
    rw [hgx0] at X0 ⊢
    replace P2 := hid (P2.out.below hcS.below0)
    clear hZS hCS hbS hcS hgx0
    repeat go_step
    have hC := readrep_calls p2 c2 y1 wS0 P2.out (by have := LB1.out; omega) (Hq.out.below BW.out Hq.out.1)
    rw [N2.out, RD1.out] at hC
    refine hC.mono ?_
    rintro e w7 ⟨rfl, hch⟩
    have hb := hch.below0
    replace Z0 := hid (Z0.out.below hb)
    replace Z1 := hid (Z1.out.below hb)
    replace BW := hid (BW.out.trans (hb.mono BW.out.size))
    replace X0 := hid (X0.out.below hb)
    clear hC hch hb
    dsimp only
    repeat (first | (refine wpList_store_blk (o := ⟨none, _, 0, _, _, _⟩) 45 (.tmp 15) (.tmp 67) rfl rfl w7.heap.size [.int .u8 0, .int .u32 0, .int .i64 0, .int .u32 0, .int .u8 0, .int .i64 0] (repV r) 45 rfl rfl (blk_alloc w7 [.int .u8 0, .int .u32 0, .int .i64 0, .int .u32 0, .int .u8 0, .int .i64 0] 45) rfl (by kernel_rfl) (by simp [repV, Value.oneCell']) ?_) | go_step)
    intro wS2 hZS hCS
    have hbS := below_alloc w7 (.cells #[.int .u8 0, .int .u32 0, .int .i64 0, .int .u32 0, .int .u8 0, .int .i64 0] 45)
    have hcS := Chg.newer (Chg.of_below [] hbS) hCS (by simp)
    replace Z0 := hid (Z0.out.below hcS.below0)
    replace Z1 := hid (Z1.out.below hcS.below0)
    replace BW := hid (BW.out.trans (hcS.below0.mono BW.out.size))
    have X2 := hid hZS
    obtain ⟨gx2, hgx2⟩ : ∃ g, w7.heap.size = g := ⟨_, rfl⟩
    rw [hgx2] at X2 ⊢
    replace X0 := hid (X0.out.below hcS.below0)
    clear hZS hCS hbS hcS hgx2
    repeat (first | (refine wpList_load_blk (o := ⟨some 75, _, _, _, _, _⟩) 43 (.tmp 13) rfl rfl gx0 [.int .u8 (q.client : Int), .int .u32 (q.seq : Int), .int .u8 (q.kind : Int), .int .u8 (q.tier : Int), .int .i64 q.k, .int .i64 q.w, .int .u32 (q.job : Int)] 43 rfl X0.out ⟨_, Tryd.underlying43, rfl⟩ (by kernel_rfl) ?_) | (refine wpList_load_blk (o := ⟨some 76, _, _, _, _, _⟩) 43 (.tmp 2) rfl rfl g0 [.int .u8 (q.client : Int), .int .u32 (q.seq : Int), .int .u8 (q.kind : Int), .int .u8 (q.tier : Int), .int .i64 q.k, .int .i64 q.w, .int .u32 (q.job : Int)] 43 rfl Z0.out ⟨_, Tryd.underlying43, rfl⟩ (by kernel_rfl) ?_) | (refine wpList_load_blk (o := ⟨some 87, _, _, _, _, _⟩) 45 (.tmp 15) rfl rfl gx2 [.int .u8 (r.client : Int), .int .u32 (r.seq : Int), .int .i64 r.e, .int .u32 (r.job : Int), .int .u8 (r.state : Int), .int .i64 r.credit] 45 rfl X2.out ⟨_, Tryd.underlying45, rfl⟩ (by kernel_rfl) ?_) | (refine wpList_load_blk (o := ⟨some 88, _, _, _, _, _⟩) 45 (.tmp 3) rfl rfl (g0 + 1) [.int .u8 (r.client : Int), .int .u32 (r.seq : Int), .int .i64 r.e, .int .u32 (r.job : Int), .int .u8 (r.state : Int), .int .i64 r.credit] 45 rfl Z1.out ⟨_, Tryd.underlying45, rfl⟩ (by kernel_rfl) ?_) | go_step)
    go_ret
    exact ⟨rfl, BW.out⟩
  · have LB0 := hid (show y0.length ≤ 100000 from by rw [← HY0.out, z0]; rw [tieL_length]; have := encQ_len OK0.out f0; omega)
    have LB1 := hid (show y1.length ≤ 100000 from by rw [← HY1.out, z1]; simp)
    have RD0 := hid (show readreqL y0 = (q, 0) from by rw [← HY0.out, z0]; exact readreq_enc OK0.out f0)
    have RD1 := hid (show readrepL y1 = (repZ, 2) from by rw [← HY1.out, z1]; exact readrep_nil)
    obtain rfl : e0 = 0 := by rw [← HE0.out, z0]
    obtain rfl : e1 = 4 := by rw [← HE1.out, z1]
    clear f0 f1 z0 z1 HM HN HY0 HY1 HE0 HE1
    go_wp2_with fail
    refine (same_n _ _ _ _ _ _ _ _ _ P0.out P1.out N0.out N1.out).mono ?_
    rintro e w' ⟨rfl, rfl⟩
    rw [beq_self_eq_true]
    go_wp2_with fail
    refine (same_n _ _ _ _ _ _ _ _ _ P2.out P3.out N2.out N3.out).mono ?_
    rintro e w' ⟨rfl, rfl⟩
    rw [beq_self_eq_true]
    go_wp2_with fail
    have hC := readreq_calls p0 c0 y0 w5 P0.out (by have := LB0.out; omega) (Hq.out.below BW.out Hq.out.1)
    rw [N0.out, RD0.out] at hC
    refine hC.mono ?_
    rintro e w6 ⟨rfl, hch⟩
    have hb := hch.below0
    replace Z0 := hid (Z0.out.below hb)
    replace Z1 := hid (Z1.out.below hb)
    replace BW := hid (BW.out.trans (hb.mono BW.out.size))
    replace P2 := hid (P2.out.below hb)
    clear hC hch hb
    dsimp only
    repeat (first | (refine wpList_store_blk (o := ⟨none, _, 0, _, _, _⟩) 43 (.tmp 13) (.tmp 62) rfl rfl w6.heap.size [.int .u8 0, .int .u32 0, .int .u8 0, .int .u8 0, .int .i64 0, .int .i64 0, .int .u32 0] (reqV q) 43 rfl rfl (blk_alloc w6 [.int .u8 0, .int .u32 0, .int .u8 0, .int .u8 0, .int .i64 0, .int .i64 0, .int .u32 0] 43) rfl (by kernel_rfl) (by simp [reqV, Value.oneCell']) ?_) | go_step)
    intro wS0 hZS hCS
    have hbS := below_alloc w6 (.cells #[.int .u8 0, .int .u32 0, .int .u8 0, .int .u8 0, .int .i64 0, .int .i64 0, .int .u32 0] 43)
    have hcS := Chg.newer (Chg.of_below [] hbS) hCS (by simp)
    replace Z0 := hid (Z0.out.below hcS.below0)
    replace Z1 := hid (Z1.out.below hcS.below0)
    replace BW := hid (BW.out.trans (hcS.below0.mono BW.out.size))
    have X0 := hid hZS
    obtain ⟨gx0, hgx0⟩ : ∃ g, w6.heap.size = g := ⟨_, rfl⟩
    rw [hgx0] at X0 ⊢
    replace P2 := hid (P2.out.below hcS.below0)
    clear hZS hCS hbS hcS hgx0
    repeat go_step
    have hC := readrep_calls p2 c2 y1 wS0 P2.out (by have := LB1.out; omega) (Hq.out.below BW.out Hq.out.1)
    rw [N2.out, RD1.out] at hC
    refine hC.mono ?_
    rintro e w7 ⟨rfl, hch⟩
    have hb := hch.below0
    replace Z0 := hid (Z0.out.below hb)
    replace Z1 := hid (Z1.out.below hb)
    replace BW := hid (BW.out.trans (hb.mono BW.out.size))
    replace X0 := hid (X0.out.below hb)
    clear hC hch hb
    dsimp only
    repeat (first | (refine wpList_store_blk (o := ⟨none, _, 0, _, _, _⟩) 45 (.tmp 15) (.tmp 67) rfl rfl w7.heap.size [.int .u8 0, .int .u32 0, .int .i64 0, .int .u32 0, .int .u8 0, .int .i64 0] (repV repZ) 45 rfl rfl (blk_alloc w7 [.int .u8 0, .int .u32 0, .int .i64 0, .int .u32 0, .int .u8 0, .int .i64 0] 45) rfl (by kernel_rfl) (by simp [repV, Value.oneCell']) ?_) | go_step)
    intro wS2 hZS hCS
    have hbS := below_alloc w7 (.cells #[.int .u8 0, .int .u32 0, .int .i64 0, .int .u32 0, .int .u8 0, .int .i64 0] 45)
    have hcS := Chg.newer (Chg.of_below [] hbS) hCS (by simp)
    replace Z0 := hid (Z0.out.below hcS.below0)
    replace Z1 := hid (Z1.out.below hcS.below0)
    replace BW := hid (BW.out.trans (hcS.below0.mono BW.out.size))
    have X2 := hid hZS
    obtain ⟨gx2, hgx2⟩ : ∃ g, w7.heap.size = g := ⟨_, rfl⟩
    rw [hgx2] at X2 ⊢
    replace X0 := hid (X0.out.below hcS.below0)
    clear hZS hCS hbS hcS hgx2
    repeat (first | (rw [wpList_pass (o := ⟨some 84, _, _, _, _, _⟩)]; (case hw => kernel_rfl); (case hp => kernel_rfl)) | (rw [wpList_pass (o := ⟨some 85, _, _, _, _, _⟩)]; (case hw => kernel_rfl); (case hp => kernel_rfl)) | (rw [wpList_pass (o := ⟨some 86, _, _, _, _, _⟩)]; (case hw => kernel_rfl); (case hp => kernel_rfl)) | (rw [wpList_pass (o := ⟨some 87, _, _, _, _, _⟩)]; (case hw => kernel_rfl); (case hp => kernel_rfl)) | (rw [wpList_pass (o := ⟨some 88, _, _, _, _, _⟩)]; (case hw => kernel_rfl); (case hp => kernel_rfl)) | (rw [wpList_pass (o := ⟨some 89, _, _, _, _, _⟩)]; (case hw => kernel_rfl); (case hp => kernel_rfl)) | (rw [wpList_pass (o := ⟨some 90, _, _, _, _, _⟩)]; (case hw => kernel_rfl); (case hp => kernel_rfl)) | (refine wpList_load_blk (o := ⟨some 75, _, _, _, _, _⟩) 43 (.tmp 13) rfl rfl gx0 [.int .u8 (q.client : Int), .int .u32 (q.seq : Int), .int .u8 (q.kind : Int), .int .u8 (q.tier : Int), .int .i64 q.k, .int .i64 q.w, .int .u32 (q.job : Int)] 43 rfl X0.out ⟨_, Tryd.underlying43, rfl⟩ (by kernel_rfl) ?_) | (refine wpList_load_blk (o := ⟨some 76, _, _, _, _, _⟩) 43 (.tmp 2) rfl rfl g0 [.int .u8 (q.client : Int), .int .u32 (q.seq : Int), .int .u8 (q.kind : Int), .int .u8 (q.tier : Int), .int .i64 q.k, .int .i64 q.w, .int .u32 (q.job : Int)] 43 rfl Z0.out ⟨_, Tryd.underlying43, rfl⟩ (by kernel_rfl) ?_) | go_step)
    go_ret
    exact ⟨rfl, BW.out⟩
  · have LB0 := hid (show y0.length ≤ 100000 from by rw [← HY0.out, z0]; simp)
    have LB1 := hid (show y1.length ≤ 100000 from by rw [← HY1.out, z1]; rw [tieL_length]; have := encR_len OK1.out f1; omega)
    have RD0 := hid (show readreqL y0 = (reqZ, 2) from by rw [← HY0.out, z0]; exact readreq_nil)
    have RD1 := hid (show readrepL y1 = (r, 0) from by rw [← HY1.out, z1]; exact readrep_enc OK1.out f1)
    obtain rfl : e0 = 4 := by rw [← HE0.out, z0]
    obtain rfl : e1 = 0 := by rw [← HE1.out, z1]
    clear f0 f1 z0 z1 HM HN HY0 HY1 HE0 HE1
    go_wp2_with fail
    refine (same_n _ _ _ _ _ _ _ _ _ P0.out P1.out N0.out N1.out).mono ?_
    rintro e w' ⟨rfl, rfl⟩
    rw [beq_self_eq_true]
    go_wp2_with fail
    refine (same_n _ _ _ _ _ _ _ _ _ P2.out P3.out N2.out N3.out).mono ?_
    rintro e w' ⟨rfl, rfl⟩
    rw [beq_self_eq_true]
    go_wp2_with fail
    have hC := readreq_calls p0 c0 y0 w5 P0.out (by have := LB0.out; omega) (Hq.out.below BW.out Hq.out.1)
    rw [N0.out, RD0.out] at hC
    refine hC.mono ?_
    rintro e w6 ⟨rfl, hch⟩
    have hb := hch.below0
    replace Z0 := hid (Z0.out.below hb)
    replace Z1 := hid (Z1.out.below hb)
    replace BW := hid (BW.out.trans (hb.mono BW.out.size))
    replace P2 := hid (P2.out.below hb)
    clear hC hch hb
    dsimp only
    repeat (first | (refine wpList_store_blk (o := ⟨none, _, 0, _, _, _⟩) 43 (.tmp 13) (.tmp 62) rfl rfl w6.heap.size [.int .u8 0, .int .u32 0, .int .u8 0, .int .u8 0, .int .i64 0, .int .i64 0, .int .u32 0] (reqV reqZ) 43 rfl rfl (blk_alloc w6 [.int .u8 0, .int .u32 0, .int .u8 0, .int .u8 0, .int .i64 0, .int .i64 0, .int .u32 0] 43) rfl (by kernel_rfl) (by simp [reqV, Value.oneCell']) ?_) | go_step)
    intro wS0 hZS hCS
    have hbS := below_alloc w6 (.cells #[.int .u8 0, .int .u32 0, .int .u8 0, .int .u8 0, .int .i64 0, .int .i64 0, .int .u32 0] 43)
    have hcS := Chg.newer (Chg.of_below [] hbS) hCS (by simp)
    replace Z0 := hid (Z0.out.below hcS.below0)
    replace Z1 := hid (Z1.out.below hcS.below0)
    replace BW := hid (BW.out.trans (hcS.below0.mono BW.out.size))
    have X0 := hid hZS
    obtain ⟨gx0, hgx0⟩ : ∃ g, w6.heap.size = g := ⟨_, rfl⟩
    rw [hgx0] at X0 ⊢
    replace P2 := hid (P2.out.below hcS.below0)
    clear hZS hCS hbS hcS hgx0
    repeat go_step
    have hC := readrep_calls p2 c2 y1 wS0 P2.out (by have := LB1.out; omega) (Hq.out.below BW.out Hq.out.1)
    rw [N2.out, RD1.out] at hC
    refine hC.mono ?_
    rintro e w7 ⟨rfl, hch⟩
    have hb := hch.below0
    replace Z0 := hid (Z0.out.below hb)
    replace Z1 := hid (Z1.out.below hb)
    replace BW := hid (BW.out.trans (hb.mono BW.out.size))
    replace X0 := hid (X0.out.below hb)
    clear hC hch hb
    dsimp only
    repeat (first | (refine wpList_store_blk (o := ⟨none, _, 0, _, _, _⟩) 45 (.tmp 15) (.tmp 67) rfl rfl w7.heap.size [.int .u8 0, .int .u32 0, .int .i64 0, .int .u32 0, .int .u8 0, .int .i64 0] (repV r) 45 rfl rfl (blk_alloc w7 [.int .u8 0, .int .u32 0, .int .i64 0, .int .u32 0, .int .u8 0, .int .i64 0] 45) rfl (by kernel_rfl) (by simp [repV, Value.oneCell']) ?_) | go_step)
    intro wS2 hZS hCS
    have hbS := below_alloc w7 (.cells #[.int .u8 0, .int .u32 0, .int .i64 0, .int .u32 0, .int .u8 0, .int .i64 0] 45)
    have hcS := Chg.newer (Chg.of_below [] hbS) hCS (by simp)
    replace Z0 := hid (Z0.out.below hcS.below0)
    replace Z1 := hid (Z1.out.below hcS.below0)
    replace BW := hid (BW.out.trans (hcS.below0.mono BW.out.size))
    have X2 := hid hZS
    obtain ⟨gx2, hgx2⟩ : ∃ g, w7.heap.size = g := ⟨_, rfl⟩
    rw [hgx2] at X2 ⊢
    replace X0 := hid (X0.out.below hcS.below0)
    clear hZS hCS hbS hcS hgx2
    repeat (first | (rw [wpList_pass (o := ⟨some 72, _, _, _, _, _⟩)]; (case hw => kernel_rfl); (case hp => kernel_rfl)) | (rw [wpList_pass (o := ⟨some 73, _, _, _, _, _⟩)]; (case hw => kernel_rfl); (case hp => kernel_rfl)) | (rw [wpList_pass (o := ⟨some 74, _, _, _, _, _⟩)]; (case hw => kernel_rfl); (case hp => kernel_rfl)) | (rw [wpList_pass (o := ⟨some 75, _, _, _, _, _⟩)]; (case hw => kernel_rfl); (case hp => kernel_rfl)) | (rw [wpList_pass (o := ⟨some 76, _, _, _, _, _⟩)]; (case hw => kernel_rfl); (case hp => kernel_rfl)) | (rw [wpList_pass (o := ⟨some 77, _, _, _, _, _⟩)]; (case hw => kernel_rfl); (case hp => kernel_rfl)) | (rw [wpList_pass (o := ⟨some 78, _, _, _, _, _⟩)]; (case hw => kernel_rfl); (case hp => kernel_rfl)) | (refine wpList_load_blk (o := ⟨some 87, _, _, _, _, _⟩) 45 (.tmp 15) rfl rfl gx2 [.int .u8 (r.client : Int), .int .u32 (r.seq : Int), .int .i64 r.e, .int .u32 (r.job : Int), .int .u8 (r.state : Int), .int .i64 r.credit] 45 rfl X2.out ⟨_, Tryd.underlying45, rfl⟩ (by kernel_rfl) ?_) | (refine wpList_load_blk (o := ⟨some 88, _, _, _, _, _⟩) 45 (.tmp 3) rfl rfl (g0 + 1) [.int .u8 (r.client : Int), .int .u32 (r.seq : Int), .int .i64 r.e, .int .u32 (r.job : Int), .int .u8 (r.state : Int), .int .i64 r.credit] 45 rfl Z1.out ⟨_, Tryd.underlying45, rfl⟩ (by kernel_rfl) ?_) | go_step)
    go_ret
    exact ⟨rfl, BW.out⟩
  · have LB0 := hid (show y0.length ≤ 100000 from by rw [← HY0.out, z0]; simp)
    have LB1 := hid (show y1.length ≤ 100000 from by rw [← HY1.out, z1]; simp)
    have RD0 := hid (show readreqL y0 = (reqZ, 2) from by rw [← HY0.out, z0]; exact readreq_nil)
    have RD1 := hid (show readrepL y1 = (repZ, 2) from by rw [← HY1.out, z1]; exact readrep_nil)
    obtain rfl : e0 = 4 := by rw [← HE0.out, z0]
    obtain rfl : e1 = 4 := by rw [← HE1.out, z1]
    clear f0 f1 z0 z1 HM HN HY0 HY1 HE0 HE1
    go_wp2_with fail
    refine (same_n _ _ _ _ _ _ _ _ _ P0.out P1.out N0.out N1.out).mono ?_
    rintro e w' ⟨rfl, rfl⟩
    rw [beq_self_eq_true]
    go_wp2_with fail
    refine (same_n _ _ _ _ _ _ _ _ _ P2.out P3.out N2.out N3.out).mono ?_
    rintro e w' ⟨rfl, rfl⟩
    rw [beq_self_eq_true]
    go_wp2_with fail
    have hC := readreq_calls p0 c0 y0 w5 P0.out (by have := LB0.out; omega) (Hq.out.below BW.out Hq.out.1)
    rw [N0.out, RD0.out] at hC
    refine hC.mono ?_
    rintro e w6 ⟨rfl, hch⟩
    have hb := hch.below0
    replace Z0 := hid (Z0.out.below hb)
    replace Z1 := hid (Z1.out.below hb)
    replace BW := hid (BW.out.trans (hb.mono BW.out.size))
    replace P2 := hid (P2.out.below hb)
    clear hC hch hb
    dsimp only
    repeat (first | (refine wpList_store_blk (o := ⟨none, _, 0, _, _, _⟩) 43 (.tmp 13) (.tmp 62) rfl rfl w6.heap.size [.int .u8 0, .int .u32 0, .int .u8 0, .int .u8 0, .int .i64 0, .int .i64 0, .int .u32 0] (reqV reqZ) 43 rfl rfl (blk_alloc w6 [.int .u8 0, .int .u32 0, .int .u8 0, .int .u8 0, .int .i64 0, .int .i64 0, .int .u32 0] 43) rfl (by kernel_rfl) (by simp [reqV, Value.oneCell']) ?_) | go_step)
    intro wS0 hZS hCS
    have hbS := below_alloc w6 (.cells #[.int .u8 0, .int .u32 0, .int .u8 0, .int .u8 0, .int .i64 0, .int .i64 0, .int .u32 0] 43)
    have hcS := Chg.newer (Chg.of_below [] hbS) hCS (by simp)
    replace Z0 := hid (Z0.out.below hcS.below0)
    replace Z1 := hid (Z1.out.below hcS.below0)
    replace BW := hid (BW.out.trans (hcS.below0.mono BW.out.size))
    have X0 := hid hZS
    obtain ⟨gx0, hgx0⟩ : ∃ g, w6.heap.size = g := ⟨_, rfl⟩
    rw [hgx0] at X0 ⊢
    replace P2 := hid (P2.out.below hcS.below0)
    clear hZS hCS hbS hcS hgx0
    repeat go_step
    have hC := readrep_calls p2 c2 y1 wS0 P2.out (by have := LB1.out; omega) (Hq.out.below BW.out Hq.out.1)
    rw [N2.out, RD1.out] at hC
    refine hC.mono ?_
    rintro e w7 ⟨rfl, hch⟩
    have hb := hch.below0
    replace Z0 := hid (Z0.out.below hb)
    replace Z1 := hid (Z1.out.below hb)
    replace BW := hid (BW.out.trans (hb.mono BW.out.size))
    replace X0 := hid (X0.out.below hb)
    clear hC hch hb
    dsimp only
    repeat (first | (refine wpList_store_blk (o := ⟨none, _, 0, _, _, _⟩) 45 (.tmp 15) (.tmp 67) rfl rfl w7.heap.size [.int .u8 0, .int .u32 0, .int .i64 0, .int .u32 0, .int .u8 0, .int .i64 0] (repV repZ) 45 rfl rfl (blk_alloc w7 [.int .u8 0, .int .u32 0, .int .i64 0, .int .u32 0, .int .u8 0, .int .i64 0] 45) rfl (by kernel_rfl) (by simp [repV, Value.oneCell']) ?_) | go_step)
    intro wS2 hZS hCS
    have hbS := below_alloc w7 (.cells #[.int .u8 0, .int .u32 0, .int .i64 0, .int .u32 0, .int .u8 0, .int .i64 0] 45)
    have hcS := Chg.newer (Chg.of_below [] hbS) hCS (by simp)
    replace Z0 := hid (Z0.out.below hcS.below0)
    replace Z1 := hid (Z1.out.below hcS.below0)
    replace BW := hid (BW.out.trans (hcS.below0.mono BW.out.size))
    have X2 := hid hZS
    obtain ⟨gx2, hgx2⟩ : ∃ g, w7.heap.size = g := ⟨_, rfl⟩
    rw [hgx2] at X2 ⊢
    replace X0 := hid (X0.out.below hcS.below0)
    clear hZS hCS hbS hcS hgx2
    repeat (first | (rw [wpList_pass (o := ⟨some 72, _, _, _, _, _⟩)]; (case hw => kernel_rfl); (case hp => kernel_rfl)) | (rw [wpList_pass (o := ⟨some 73, _, _, _, _, _⟩)]; (case hw => kernel_rfl); (case hp => kernel_rfl)) | (rw [wpList_pass (o := ⟨some 74, _, _, _, _, _⟩)]; (case hw => kernel_rfl); (case hp => kernel_rfl)) | (rw [wpList_pass (o := ⟨some 75, _, _, _, _, _⟩)]; (case hw => kernel_rfl); (case hp => kernel_rfl)) | (rw [wpList_pass (o := ⟨some 76, _, _, _, _, _⟩)]; (case hw => kernel_rfl); (case hp => kernel_rfl)) | (rw [wpList_pass (o := ⟨some 77, _, _, _, _, _⟩)]; (case hw => kernel_rfl); (case hp => kernel_rfl)) | (rw [wpList_pass (o := ⟨some 78, _, _, _, _, _⟩)]; (case hw => kernel_rfl); (case hp => kernel_rfl)) | (rw [wpList_pass (o := ⟨some 84, _, _, _, _, _⟩)]; (case hw => kernel_rfl); (case hp => kernel_rfl)) | (rw [wpList_pass (o := ⟨some 85, _, _, _, _, _⟩)]; (case hw => kernel_rfl); (case hp => kernel_rfl)) | (rw [wpList_pass (o := ⟨some 86, _, _, _, _, _⟩)]; (case hw => kernel_rfl); (case hp => kernel_rfl)) | (rw [wpList_pass (o := ⟨some 87, _, _, _, _, _⟩)]; (case hw => kernel_rfl); (case hp => kernel_rfl)) | (rw [wpList_pass (o := ⟨some 88, _, _, _, _, _⟩)]; (case hw => kernel_rfl); (case hp => kernel_rfl)) | (rw [wpList_pass (o := ⟨some 89, _, _, _, _, _⟩)]; (case hw => kernel_rfl); (case hp => kernel_rfl)) | (rw [wpList_pass (o := ⟨some 90, _, _, _, _, _⟩)]; (case hw => kernel_rfl); (case hp => kernel_rfl)) | go_step)
    go_ret
    exact ⟨rfl, BW.out⟩
end Go.Proofs.YtmmcmldcbdaooaaDoor
