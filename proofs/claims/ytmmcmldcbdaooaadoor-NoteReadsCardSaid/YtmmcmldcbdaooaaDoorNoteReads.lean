/- NoteReads: of all bytes the readers tell what the document tells; the bytes stay as they are. -/
import Derived.Test.YtmmcmldcbdaooaaDoorNoteV
import Derived.Deep.Cut
import Derived.Deep.CutRange
namespace Go.Proofs.YtmmcmldcbdaooaaDoor
open Go.RowKit Go.Quad _root_.Quad _root_.Quad.Ink

theorem wpList_eql {P : Program} {w : World} {ops : Array Oper} {rest : List Oper} {o : Oper} {ac : Act} {Q : Exit → Act → World → Prop}
    (t t' : TypeId) (x y : Operand) (ho : o.op = .binOp .eql t x y t') (hw : Region.wanted o (yielded ops ac.tmps) = true) (u v : Value) (hx : ac.eval x = u) (hy : ac.eval y = v) (b : Bool)
    (hg : (eqGuard .eql t x y u v).run P w = .ok () w) (hr : (binOp .eql t u v).run P w = .ok (.bool b) w) (hK : wpList P ops Q rest (ac.put o.dst (.bool b)) w) : wpList P ops Q (o :: rest) ac w := by
  refine wpList_by (fun v w' => v = .bool b ∧ w' = w) hw ⟨_, _, ?_, rfl, rfl⟩ (by rintro v w' ⟨rfl, rfl⟩; exact hK)
  simp only [execOp, ho, hx, hy, Sem.run_bind, hg, hr, Result.andThen_ok, Sem.run_pure]
theorem eqg_req (q : ReqD) (V : List Value) (hV : reqV q = V) (x y : Tmp) (w : World) : (eqGuard .eql 43 (.tmp x) (.tmp y) (.agg V.toArray) (.agg V.toArray)).run Tryd.prog w = .ok () w := by
  subst hV
  simp only [reqV]
  go_simp
theorem eq_req' (q : ReqD) (V : List Value) (hV : reqV q = V) (w : World) : (binOp .eql 43 (.agg V.toArray) (.agg V.toArray)).run Tryd.prog w = .ok (.bool true) w := by
  subst hV
  simp only [reqV]
  go_simp
theorem eqg_rep (q : RepD) (V : List Value) (hV : repV q = V) (x y : Tmp) (w : World) : (eqGuard .eql 45 (.tmp x) (.tmp y) (.agg V.toArray) (.agg V.toArray)).run Tryd.prog w = .ok () w := by
  subst hV
  simp only [repV]
  go_simp
theorem eq_rep' (q : RepD) (V : List Value) (hV : repV q = V) (w : World) : (binOp .eql 45 (.agg V.toArray) (.agg V.toArray)).run Tryd.prog w = .ok (.bool true) w := by
  subst hV
  simp only [repV]
  go_simp
theorem noteZ_ok : noteZ.Ok := by constructor <;> decide
theorem pakZ_ok : pakZ.Ok := by constructor <;> decide
theorem readnote_ok (p : List UInt8) : (readnoteL p).1.Ok := by
  unfold readnoteL
  split
  · exact noteZ_ok
  · split
    · exact rdnote_ok _
    · exact noteZ_ok
theorem readpak_ok (p : List UInt8) : (readpakL p).1.Ok := by
  unfold readpakL
  split
  · exact pakZ_ok
  · split
    · exact rdpak_ok _
    · exact pakZ_ok

set_option maxRecDepth 100000 in
set_option maxHeartbeats 20000000 in
theorem noteReads_walk (a : Option Addr) (c : Nat) (l : List UInt8) (w : World) (h : BS w a c l) (hq : Laid w) :
    Calls Tryd.prog 8 #[.slice a l.length c] w fun e w' => e = .returned (.bool true) ∧ Below w.heap.size w w' := by
  have F := hid h.fit'
  have mx := h.max'
  obtain ⟨k, hk⟩ : ∃ k, min l.length 400 = k := ⟨_, rfl⟩
  have K := hid ((nmin400 l.length).trans (by rw [hk]))
  have PP := hid (show BS w a c (l.take k) from h.take k)
  have LK := hid (show (l.take k).length = k from by rw [List.length_take]; omega)
  have kb : (k : Int) ≤ 400 := by omega
  obtain ⟨n, hn⟩ : ∃ n, l.length = n := ⟨_, rfl⟩
  rw [hn] at mx F K ⊢
  have FK := hid (show k ≤ c from by have := F.out; omega)
  have Hq := hid hq
  generalize l.take k = t at PP LK
  clear h hq hk hn
  go_enter Tryd.func8, Tryd.ntmps8
  go_wp2_with fail
  refine (awake_calls w Hq.out).mono ?_
  rintro e w0 ⟨rfl, hb⟩
  have BW := hid hb
  replace PP := hid (PP.out.below hb)
  clear hb
  have hfk := FK.out
  go_upto_region 3 with fail
  repeat (first | (refine wpList_by (o := ⟨some 25, _, _, _, _, _⟩) (fun v w' => v = .int .i64 (k : Int) ∧ w0 = w') (by kernel_rfl) ⟨.int .i64 (k : Int), w0, (by have hk := K.out; go_simp), rfl, rfl⟩ ?_) | go_step)
  rintro v w' ⟨rfl, rfl⟩
  have hown := OB.empty w0
  have hsrc := PP.out.below (below_alloc w0 (.cells #[] 5))
  have kb2 := LK.out
  go_upto_region 5 with (first | (at_builtin; refine wpList_append_b (.tmp 27) (.tmp 28) _ rfl rfl _ 5 info_u8 under_bytes _ _ hown rfl hsrc (by rw [kb2]; rfl) (by have := LK.out; simp; omega) (by simp) ?_; intro v5 w1 hown1 hg1 hb1 _; have hown1' := OB.below hown1 (below_alloc w1 (.cells #[.int .u8 165] 5)); have hz1 := hid hb1.size) | (at_builtin; refine wpList_append_b (.tmp 29) (.tmp 30) _ rfl rfl _ 5 info_u8 under_bytes _ _ hown1' rfl (lit_bs w1 5 [165] (by simp [maxLen])) rfl (by have := LK.out; simp; omega) (by have := hz1.out; simp at this ⊢; omega) ?_; intro v7 w2 hown2 hg2 hb2 _; obtain ⟨ay, cq, rfl, hs7, ho7⟩ := OB.bs hown2; have hf7 := hid hs7.fit') | (refine wpList_cut _ (.tmp 31) none (some (.tmp 33)) rfl rfl 5 info_u8 under_bytes rfl hs7 0 k (.inr ⟨rfl, rfl⟩) (.inl rfl) (Nat.zero_le _) (by have := hf7.out; simp at this; omega) ?_; intro aq hs8))
  simp only [List.nil_append, List.drop_zero, Nat.sub_zero] at hs8
  clear hs7 hown2 hown1 hown1' hg1 hg2 hown hsrc ho7 hf7
  replace BW := hid (show Below w.heap.size w w2 from ((BW.out.trans ((below_alloc w0 (.cells #[] 5)).mono BW.out.size)).trans (hb1.mono BW.out.size)).trans (((below_alloc w1 (.cells #[.int .u8 165] 5)).mono (by have := hz1.out; have := BW.out.size; simp at *; omega)).trans (hb2.mono BW.out.size)))
  have LAT := hid (show Below w0.heap.size w0 w2 from ((below_alloc w0 (.cells #[] 5)).trans hb1).trans (((below_alloc w1 (.cells #[.int .u8 165] 5)).mono (by have := hz1.out; simp at *; omega)).trans hb2))
  replace PP := hid (PP.out.below LAT.out)
  have PQ := hid (show BS w2 aq cq (t ++ [165]) from hs8)
  have P0 := hid (show BS w2 aq cq t from PQ.out.left)
  have LB := hid (show t.length ≤ 100000 from by have := LK.out; omega)
  clear hs8 hb1 hb2 hz1 LAT hfk kb2 K F FK mx
  go_wp2_with fail
  have hC := readnote_calls aq cq t w2 P0.out LB.out (Hq.out.below BW.out Hq.out.1)
  rw [LK.out] at hC
  unfold Gotnote at hC
  obtain ⟨d1, k1, hd1⟩ : ∃ d k, readnoteL t = (d, k) := ⟨_, _, rfl⟩
  rw [hd1] at hC
  have R1 := hid hd1
  clear hd1
  dsimp only at hC
  refine hC.mono ?_
  rintro e wa1 ⟨a1, c1, rfl, hbs, _, hch⟩
  obtain ⟨n1, hn1⟩ : ∃ n, d1.blob.length = n := ⟨_, rfl⟩
  rw [hn1]
  have L1 := hid hn1
  have D1 := hid hbs
  clear hn1
  clear hbs
  have hb := hch.below0
  clear hch
  replace P0 := hid (P0.out.below hb)
  replace PQ := hid (PQ.out.below hb)
  replace PP := hid (PP.out.below hb)
  replace BW := hid (BW.out.trans (hb.mono BW.out.size))
  clear hb hC
  dsimp only
  have HV := hid (show (noteV d1 (.slice a1 n1 c1)).length = 13 from rfl)
  have HO := hid (show ∀ u ∈ (noteV d1 (.slice a1 n1 c1)), u.oneCell' = true from by simp [noteV, Value.oneCell'])
  obtain ⟨V1, hV1⟩ : ∃ v, (noteV d1 (.slice a1 n1 c1)) = v := ⟨_, rfl⟩
  rw [hV1] at HV HO ⊢
  have E1 := hid hV1
  clear hV1
  have hb3 := below_alloc wa1 (.cells [.int .u8 0, .int .u8 0, .int .u32 0, .int .u32 0, .int .u32 0, .int .u32 0, .int .u32 0, .int .u32 0, .int .u8 0, .int .i64 0, .int .u32 0, .int .u32 0, .slice none 0 0].toArray 25)
  repeat (first | (refine wpList_store_blk (o := ⟨none, _, 0, _, _, _⟩) 25 (.tmp 4) (.tmp 38) rfl rfl wa1.heap.size [.int .u8 0, .int .u8 0, .int .u32 0, .int .u32 0, .int .u32 0, .int .u32 0, .int .u32 0, .int .u32 0, .int .u8 0, .int .i64 0, .int .u32 0, .int .u32 0, .slice none 0 0] V1 25 rfl rfl (blk_alloc wa1 [.int .u8 0, .int .u8 0, .int .u32 0, .int .u32 0, .int .u32 0, .int .u32 0, .int .u32 0, .int .u32 0, .int .u8 0, .int .i64 0, .int .u32 0, .int .u32 0, .slice none 0 0] 25) HV.out (by rw [HV.out]; kernel_rfl) HO.out ?_) | go_step)
  intro wb1 hM hC
  have hcS := Chg.newer (Chg.of_below [] hb3) hC (by simp)
  have hb := hcS.below0
  replace D1 := hid (D1.out.below hb)
  obtain ⟨g1, hg1⟩ : ∃ g, wa1.heap.size = g := ⟨_, rfl⟩
  rw [hg1] at hM ⊢
  have Z1 := hid hM
  clear hg1
  replace P0 := hid (P0.out.below hb)
  replace PQ := hid (PQ.out.below hb)
  replace PP := hid (PP.out.below hb)
  replace BW := hid (BW.out.trans (hb.mono BW.out.size))
  clear hM hC hcS hb hb3 HV HO
  go_wp2_with fail
  have hC := refreadnote_calls a c k t wb1 PP.out LK.out (by have := (LB.out : t.length ≤ 100000); omega)
  unfold Refgotnote at hC
  obtain ⟨d2, k2, hd2⟩ : ∃ d k, refreadnoteL t = (d, k) := ⟨_, _, rfl⟩
  rw [hd2] at hC
  have R2 := hid hd2
  clear hd2
  dsimp only at hC
  refine hC.mono ?_
  rintro e wa2 ⟨a2, c2, rfl, hbs, hb⟩
  obtain ⟨n2, hn2⟩ : ∃ n, d2.blob.length = n := ⟨_, rfl⟩
  rw [hn2]
  have L2 := hid hn2
  have D2 := hid hbs
  clear hn2
  clear hbs
  replace P0 := hid (P0.out.below hb)
  replace PQ := hid (PQ.out.below hb)
  replace PP := hid (PP.out.below hb)
  replace Z1 := hid (Z1.out.below hb)
  replace D1 := hid (D1.out.below hb)
  replace BW := hid (BW.out.trans (hb.mono BW.out.size))
  clear hb hC
  dsimp only
  have HV := hid (show (noteV d2 (.slice a2 n2 c2)).length = 13 from rfl)
  have HO := hid (show ∀ u ∈ (noteV d2 (.slice a2 n2 c2)), u.oneCell' = true from by simp [noteV, Value.oneCell'])
  obtain ⟨V2, hV2⟩ : ∃ v, (noteV d2 (.slice a2 n2 c2)) = v := ⟨_, rfl⟩
  rw [hV2] at HV HO ⊢
  have E2 := hid hV2
  clear hV2
  have hb3 := below_alloc wa2 (.cells [.int .u8 0, .int .u8 0, .int .u32 0, .int .u32 0, .int .u32 0, .int .u32 0, .int .u32 0, .int .u32 0, .int .u8 0, .int .i64 0, .int .u32 0, .int .u32 0, .slice none 0 0].toArray 25)
  repeat (first | (refine wpList_store_blk (o := ⟨none, _, 0, _, _, _⟩) 25 (.tmp 6) (.tmp 43) rfl rfl wa2.heap.size [.int .u8 0, .int .u8 0, .int .u32 0, .int .u32 0, .int .u32 0, .int .u32 0, .int .u32 0, .int .u32 0, .int .u8 0, .int .i64 0, .int .u32 0, .int .u32 0, .slice none 0 0] V2 25 rfl rfl (blk_alloc wa2 [.int .u8 0, .int .u8 0, .int .u32 0, .int .u32 0, .int .u32 0, .int .u32 0, .int .u32 0, .int .u32 0, .int .u8 0, .int .i64 0, .int .u32 0, .int .u32 0, .slice none 0 0] 25) HV.out (by rw [HV.out]; kernel_rfl) HO.out ?_) | go_step)
  intro wb2 hM hC
  have hcS := Chg.newer (Chg.of_below [] hb3) hC (by simp)
  have hb := hcS.below0
  replace D2 := hid (D2.out.below hb)
  obtain ⟨g2, hg2⟩ : ∃ g, wa2.heap.size = g := ⟨_, rfl⟩
  rw [hg2] at hM ⊢
  have Z2 := hid hM
  clear hg2
  replace P0 := hid (P0.out.below hb)
  replace PQ := hid (PQ.out.below hb)
  replace PP := hid (PP.out.below hb)
  replace Z1 := hid (Z1.out.below hb)
  replace D1 := hid (D1.out.below hb)
  replace BW := hid (BW.out.trans (hb.mono BW.out.size))
  clear hM hC hcS hb hb3 HV HO
  go_wp2_with fail
  have hC := readreq_calls aq cq t wb2 P0.out LB.out (Hq.out.below BW.out Hq.out.1)
  rw [LK.out] at hC
  unfold Gotreq at hC
  obtain ⟨d3, k3, hd3⟩ : ∃ d k, readreqL t = (d, k) := ⟨_, _, rfl⟩
  rw [hd3] at hC
  have R3 := hid hd3
  clear hd3
  dsimp only at hC
  refine hC.mono ?_
  rintro e wa3 ⟨rfl, hch⟩
  have hb := hch.below0
  clear hch
  replace P0 := hid (P0.out.below hb)
  replace PQ := hid (PQ.out.below hb)
  replace PP := hid (PP.out.below hb)
  replace Z1 := hid (Z1.out.below hb)
  replace D1 := hid (D1.out.below hb)
  replace Z2 := hid (Z2.out.below hb)
  replace D2 := hid (D2.out.below hb)
  replace BW := hid (BW.out.trans (hb.mono BW.out.size))
  clear hb hC
  dsimp only
  have HV := hid (show (reqV d3).length = 7 from rfl)
  have HO := hid (show ∀ u ∈ (reqV d3), u.oneCell' = true from by simp [reqV, Value.oneCell'])
  obtain ⟨V3, hV3⟩ : ∃ v, (reqV d3) = v := ⟨_, rfl⟩
  rw [hV3] at HV HO ⊢
  have E3 := hid hV3
  clear hV3
  have hb3 := below_alloc wa3 (.cells [.int .u8 0, .int .u32 0, .int .u8 0, .int .u8 0, .int .i64 0, .int .i64 0, .int .u32 0].toArray 43)
  repeat (first | (refine wpList_store_blk (o := ⟨none, _, 0, _, _, _⟩) 43 (.tmp 8) (.tmp 48) rfl rfl wa3.heap.size [.int .u8 0, .int .u32 0, .int .u8 0, .int .u8 0, .int .i64 0, .int .i64 0, .int .u32 0] V3 43 rfl rfl (blk_alloc wa3 [.int .u8 0, .int .u32 0, .int .u8 0, .int .u8 0, .int .i64 0, .int .i64 0, .int .u32 0] 43) HV.out (by rw [HV.out]; kernel_rfl) HO.out ?_) | go_step)
  intro wb3 hM hC
  have hcS := Chg.newer (Chg.of_below [] hb3) hC (by simp)
  have hb := hcS.below0
  obtain ⟨g3, hg3⟩ : ∃ g, wa3.heap.size = g := ⟨_, rfl⟩
  rw [hg3] at hM ⊢
  have Z3 := hid hM
  clear hg3
  replace P0 := hid (P0.out.below hb)
  replace PQ := hid (PQ.out.below hb)
  replace PP := hid (PP.out.below hb)
  replace Z1 := hid (Z1.out.below hb)
  replace D1 := hid (D1.out.below hb)
  replace Z2 := hid (Z2.out.below hb)
  replace D2 := hid (D2.out.below hb)
  replace BW := hid (BW.out.trans (hb.mono BW.out.size))
  clear hM hC hcS hb hb3 HV HO
  go_wp2_with fail
  have hC := refreadreq_calls a c k t wb3 PP.out LK.out (by have := (LB.out : t.length ≤ 100000); omega)
  unfold Refgotreq at hC
  obtain ⟨d4, k4, hd4⟩ : ∃ d k, refreadreqL t = (d, k) := ⟨_, _, rfl⟩
  rw [hd4] at hC
  have R4 := hid hd4
  clear hd4
  dsimp only at hC
  refine hC.mono ?_
  rintro e wa4 ⟨rfl, hb⟩
  replace P0 := hid (P0.out.below hb)
  replace PQ := hid (PQ.out.below hb)
  replace PP := hid (PP.out.below hb)
  replace Z1 := hid (Z1.out.below hb)
  replace D1 := hid (D1.out.below hb)
  replace Z2 := hid (Z2.out.below hb)
  replace D2 := hid (D2.out.below hb)
  replace Z3 := hid (Z3.out.below hb)
  replace BW := hid (BW.out.trans (hb.mono BW.out.size))
  clear hb hC
  dsimp only
  have HV := hid (show (reqV d4).length = 7 from rfl)
  have HO := hid (show ∀ u ∈ (reqV d4), u.oneCell' = true from by simp [reqV, Value.oneCell'])
  obtain ⟨V4, hV4⟩ : ∃ v, (reqV d4) = v := ⟨_, rfl⟩
  rw [hV4] at HV HO ⊢
  have E4 := hid hV4
  clear hV4
  have hb3 := below_alloc wa4 (.cells [.int .u8 0, .int .u32 0, .int .u8 0, .int .u8 0, .int .i64 0, .int .i64 0, .int .u32 0].toArray 43)
  repeat (first | (refine wpList_store_blk (o := ⟨none, _, 0, _, _, _⟩) 43 (.tmp 10) (.tmp 53) rfl rfl wa4.heap.size [.int .u8 0, .int .u32 0, .int .u8 0, .int .u8 0, .int .i64 0, .int .i64 0, .int .u32 0] V4 43 rfl rfl (blk_alloc wa4 [.int .u8 0, .int .u32 0, .int .u8 0, .int .u8 0, .int .i64 0, .int .i64 0, .int .u32 0] 43) HV.out (by rw [HV.out]; kernel_rfl) HO.out ?_) | go_step)
  intro wb4 hM hC
  have hcS := Chg.newer (Chg.of_below [] hb3) hC (by simp)
  have hb := hcS.below0
  obtain ⟨g4, hg4⟩ : ∃ g, wa4.heap.size = g := ⟨_, rfl⟩
  rw [hg4] at hM ⊢
  have Z4 := hid hM
  clear hg4
  replace P0 := hid (P0.out.below hb)
  replace PQ := hid (PQ.out.below hb)
  replace PP := hid (PP.out.below hb)
  replace Z1 := hid (Z1.out.below hb)
  replace D1 := hid (D1.out.below hb)
  replace Z2 := hid (Z2.out.below hb)
  replace D2 := hid (D2.out.below hb)
  replace Z3 := hid (Z3.out.below hb)
  replace BW := hid (BW.out.trans (hb.mono BW.out.size))
  clear hM hC hcS hb hb3 HV HO
  go_wp2_with fail
  have hC := readrep_calls aq cq t wb4 P0.out LB.out (Hq.out.below BW.out Hq.out.1)
  rw [LK.out] at hC
  unfold Gotrep at hC
  obtain ⟨d5, k5, hd5⟩ : ∃ d k, readrepL t = (d, k) := ⟨_, _, rfl⟩
  rw [hd5] at hC
  have R5 := hid hd5
  clear hd5
  dsimp only at hC
  refine hC.mono ?_
  rintro e wa5 ⟨rfl, hch⟩
  have hb := hch.below0
  clear hch
  replace P0 := hid (P0.out.below hb)
  replace PQ := hid (PQ.out.below hb)
  replace PP := hid (PP.out.below hb)
  replace Z1 := hid (Z1.out.below hb)
  replace D1 := hid (D1.out.below hb)
  replace Z2 := hid (Z2.out.below hb)
  replace D2 := hid (D2.out.below hb)
  replace Z3 := hid (Z3.out.below hb)
  replace Z4 := hid (Z4.out.below hb)
  replace BW := hid (BW.out.trans (hb.mono BW.out.size))
  clear hb hC
  dsimp only
  have HV := hid (show (repV d5).length = 6 from rfl)
  have HO := hid (show ∀ u ∈ (repV d5), u.oneCell' = true from by simp [repV, Value.oneCell'])
  obtain ⟨V5, hV5⟩ : ∃ v, (repV d5) = v := ⟨_, rfl⟩
  rw [hV5] at HV HO ⊢
  have E5 := hid hV5
  clear hV5
  have hb3 := below_alloc wa5 (.cells [.int .u8 0, .int .u32 0, .int .i64 0, .int .u32 0, .int .u8 0, .int .i64 0].toArray 45)
  repeat (first | (refine wpList_store_blk (o := ⟨none, _, 0, _, _, _⟩) 45 (.tmp 12) (.tmp 58) rfl rfl wa5.heap.size [.int .u8 0, .int .u32 0, .int .i64 0, .int .u32 0, .int .u8 0, .int .i64 0] V5 45 rfl rfl (blk_alloc wa5 [.int .u8 0, .int .u32 0, .int .i64 0, .int .u32 0, .int .u8 0, .int .i64 0] 45) HV.out (by rw [HV.out]; kernel_rfl) HO.out ?_) | go_step)
  intro wb5 hM hC
  have hcS := Chg.newer (Chg.of_below [] hb3) hC (by simp)
  have hb := hcS.below0
  obtain ⟨g5, hg5⟩ : ∃ g, wa5.heap.size = g := ⟨_, rfl⟩
  rw [hg5] at hM ⊢
  have Z5 := hid hM
  clear hg5
  replace P0 := hid (P0.out.below hb)
  replace PQ := hid (PQ.out.below hb)
  replace PP := hid (PP.out.below hb)
  replace Z1 := hid (Z1.out.below hb)
  replace D1 := hid (D1.out.below hb)
  replace Z2 := hid (Z2.out.below hb)
  replace D2 := hid (D2.out.below hb)
  replace Z3 := hid (Z3.out.below hb)
  replace Z4 := hid (Z4.out.below hb)
  replace BW := hid (BW.out.trans (hb.mono BW.out.size))
  clear hM hC hcS hb hb3 HV HO
  go_wp2_with fail
  have hC := refreadrep_calls a c k t wb5 PP.out LK.out (by have := (LB.out : t.length ≤ 100000); omega)
  unfold Refgotrep at hC
  obtain ⟨d6, k6, hd6⟩ : ∃ d k, refreadrepL t = (d, k) := ⟨_, _, rfl⟩
  rw [hd6] at hC
  have R6 := hid hd6
  clear hd6
  dsimp only at hC
  refine hC.mono ?_
  rintro e wa6 ⟨rfl, hb⟩
  replace P0 := hid (P0.out.below hb)
  replace PQ := hid (PQ.out.below hb)
  replace PP := hid (PP.out.below hb)
  replace Z1 := hid (Z1.out.below hb)
  replace D1 := hid (D1.out.below hb)
  replace Z2 := hid (Z2.out.below hb)
  replace D2 := hid (D2.out.below hb)
  replace Z3 := hid (Z3.out.below hb)
  replace Z4 := hid (Z4.out.below hb)
  replace Z5 := hid (Z5.out.below hb)
  replace BW := hid (BW.out.trans (hb.mono BW.out.size))
  clear hb hC
  dsimp only
  have HV := hid (show (repV d6).length = 6 from rfl)
  have HO := hid (show ∀ u ∈ (repV d6), u.oneCell' = true from by simp [repV, Value.oneCell'])
  obtain ⟨V6, hV6⟩ : ∃ v, (repV d6) = v := ⟨_, rfl⟩
  rw [hV6] at HV HO ⊢
  have E6 := hid hV6
  clear hV6
  have hb3 := below_alloc wa6 (.cells [.int .u8 0, .int .u32 0, .int .i64 0, .int .u32 0, .int .u8 0, .int .i64 0].toArray 45)
  repeat (first | (refine wpList_store_blk (o := ⟨none, _, 0, _, _, _⟩) 45 (.tmp 14) (.tmp 63) rfl rfl wa6.heap.size [.int .u8 0, .int .u32 0, .int .i64 0, .int .u32 0, .int .u8 0, .int .i64 0] V6 45 rfl rfl (blk_alloc wa6 [.int .u8 0, .int .u32 0, .int .i64 0, .int .u32 0, .int .u8 0, .int .i64 0] 45) HV.out (by rw [HV.out]; kernel_rfl) HO.out ?_) | go_step)
  intro wb6 hM hC
  have hcS := Chg.newer (Chg.of_below [] hb3) hC (by simp)
  have hb := hcS.below0
  obtain ⟨g6, hg6⟩ : ∃ g, wa6.heap.size = g := ⟨_, rfl⟩
  rw [hg6] at hM ⊢
  have Z6 := hid hM
  clear hg6
  replace P0 := hid (P0.out.below hb)
  replace PQ := hid (PQ.out.below hb)
  replace PP := hid (PP.out.below hb)
  replace Z1 := hid (Z1.out.below hb)
  replace D1 := hid (D1.out.below hb)
  replace Z2 := hid (Z2.out.below hb)
  replace D2 := hid (D2.out.below hb)
  replace Z3 := hid (Z3.out.below hb)
  replace Z4 := hid (Z4.out.below hb)
  replace Z5 := hid (Z5.out.below hb)
  replace BW := hid (BW.out.trans (hb.mono BW.out.size))
  clear hM hC hcS hb hb3 HV HO
  go_wp2_with fail
  have hC := readpak_calls aq cq t wb6 P0.out LB.out (Hq.out.below BW.out Hq.out.1)
  rw [LK.out] at hC
  unfold Gotpak at hC
  obtain ⟨d7, k7, hd7⟩ : ∃ d k, readpakL t = (d, k) := ⟨_, _, rfl⟩
  rw [hd7] at hC
  have R7 := hid hd7
  clear hd7
  dsimp only at hC
  refine hC.mono ?_
  rintro e wa7 ⟨a7, c7, rfl, hbs, _, hch⟩
  obtain ⟨n7, hn7⟩ : ∃ n, d7.data.length = n := ⟨_, rfl⟩
  rw [hn7]
  have L7 := hid hn7
  have D7 := hid hbs
  clear hn7
  clear hbs
  have hb := hch.below0
  clear hch
  replace P0 := hid (P0.out.below hb)
  replace PQ := hid (PQ.out.below hb)
  replace PP := hid (PP.out.below hb)
  replace Z1 := hid (Z1.out.below hb)
  replace D1 := hid (D1.out.below hb)
  replace Z2 := hid (Z2.out.below hb)
  replace D2 := hid (D2.out.below hb)
  replace Z3 := hid (Z3.out.below hb)
  replace Z4 := hid (Z4.out.below hb)
  replace Z5 := hid (Z5.out.below hb)
  replace Z6 := hid (Z6.out.below hb)
  replace BW := hid (BW.out.trans (hb.mono BW.out.size))
  clear hb hC
  dsimp only
  have HV := hid (show (pakV d7 (.slice a7 n7 c7)).length = 7 from rfl)
  have HO := hid (show ∀ u ∈ (pakV d7 (.slice a7 n7 c7)), u.oneCell' = true from by simp [pakV, Value.oneCell'])
  obtain ⟨V7, hV7⟩ : ∃ v, (pakV d7 (.slice a7 n7 c7)) = v := ⟨_, rfl⟩
  rw [hV7] at HV HO ⊢
  have E7 := hid hV7
  clear hV7
  have hb3 := below_alloc wa7 (.cells [.int .u8 0, .int .u32 0, .int .u32 0, .int .u32 0, .int .u32 0, .bool false, .slice none 0 0].toArray 27)
  repeat (first | (refine wpList_store_blk (o := ⟨none, _, 0, _, _, _⟩) 27 (.tmp 16) (.tmp 68) rfl rfl wa7.heap.size [.int .u8 0, .int .u32 0, .int .u32 0, .int .u32 0, .int .u32 0, .bool false, .slice none 0 0] V7 27 rfl rfl (blk_alloc wa7 [.int .u8 0, .int .u32 0, .int .u32 0, .int .u32 0, .int .u32 0, .bool false, .slice none 0 0] 27) HV.out (by rw [HV.out]; kernel_rfl) HO.out ?_) | go_step)
  intro wb7 hM hC
  have hcS := Chg.newer (Chg.of_below [] hb3) hC (by simp)
  have hb := hcS.below0
  replace D7 := hid (D7.out.below hb)
  obtain ⟨g7, hg7⟩ : ∃ g, wa7.heap.size = g := ⟨_, rfl⟩
  rw [hg7] at hM ⊢
  have Z7 := hid hM
  clear hg7
  replace P0 := hid (P0.out.below hb)
  replace PQ := hid (PQ.out.below hb)
  replace PP := hid (PP.out.below hb)
  replace Z1 := hid (Z1.out.below hb)
  replace D1 := hid (D1.out.below hb)
  replace Z2 := hid (Z2.out.below hb)
  replace D2 := hid (D2.out.below hb)
  replace Z3 := hid (Z3.out.below hb)
  replace Z4 := hid (Z4.out.below hb)
  replace Z5 := hid (Z5.out.below hb)
  replace Z6 := hid (Z6.out.below hb)
  replace BW := hid (BW.out.trans (hb.mono BW.out.size))
  clear hM hC hcS hb hb3 HV HO
  go_wp2_with fail
  have hC := refreadpak_calls a c k t wb7 PP.out LK.out (by have := (LB.out : t.length ≤ 100000); omega)
  unfold Refgotpak at hC
  obtain ⟨d8, k8, hd8⟩ : ∃ d k, refreadpakL t = (d, k) := ⟨_, _, rfl⟩
  rw [hd8] at hC
  have R8 := hid hd8
  clear hd8
  dsimp only at hC
  refine hC.mono ?_
  rintro e wa8 ⟨a8, c8, rfl, hbs, hb⟩
  obtain ⟨n8, hn8⟩ : ∃ n, d8.data.length = n := ⟨_, rfl⟩
  rw [hn8]
  have L8 := hid hn8
  have D8 := hid hbs
  clear hn8
  clear hbs
  replace P0 := hid (P0.out.below hb)
  replace PQ := hid (PQ.out.below hb)
  replace PP := hid (PP.out.below hb)
  replace Z1 := hid (Z1.out.below hb)
  replace D1 := hid (D1.out.below hb)
  replace Z2 := hid (Z2.out.below hb)
  replace D2 := hid (D2.out.below hb)
  replace Z3 := hid (Z3.out.below hb)
  replace Z4 := hid (Z4.out.below hb)
  replace Z5 := hid (Z5.out.below hb)
  replace Z6 := hid (Z6.out.below hb)
  replace Z7 := hid (Z7.out.below hb)
  replace D7 := hid (D7.out.below hb)
  replace BW := hid (BW.out.trans (hb.mono BW.out.size))
  clear hb hC
  dsimp only
  have HV := hid (show (pakV d8 (.slice a8 n8 c8)).length = 7 from rfl)
  have HO := hid (show ∀ u ∈ (pakV d8 (.slice a8 n8 c8)), u.oneCell' = true from by simp [pakV, Value.oneCell'])
  obtain ⟨V8, hV8⟩ : ∃ v, (pakV d8 (.slice a8 n8 c8)) = v := ⟨_, rfl⟩
  rw [hV8] at HV HO ⊢
  have E8 := hid hV8
  clear hV8
  have hb3 := below_alloc wa8 (.cells [.int .u8 0, .int .u32 0, .int .u32 0, .int .u32 0, .int .u32 0, .bool false, .slice none 0 0].toArray 27)
  repeat (first | (refine wpList_store_blk (o := ⟨none, _, 0, _, _, _⟩) 27 (.tmp 18) (.tmp 73) rfl rfl wa8.heap.size [.int .u8 0, .int .u32 0, .int .u32 0, .int .u32 0, .int .u32 0, .bool false, .slice none 0 0] V8 27 rfl rfl (blk_alloc wa8 [.int .u8 0, .int .u32 0, .int .u32 0, .int .u32 0, .int .u32 0, .bool false, .slice none 0 0] 27) HV.out (by rw [HV.out]; kernel_rfl) HO.out ?_) | go_step)
  intro wb8 hM hC
  have hcS := Chg.newer (Chg.of_below [] hb3) hC (by simp)
  have hb := hcS.below0
  replace D8 := hid (D8.out.below hb)
  obtain ⟨g8, hg8⟩ : ∃ g, wa8.heap.size = g := ⟨_, rfl⟩
  rw [hg8] at hM ⊢
  have Z8 := hid hM
  clear hg8
  replace P0 := hid (P0.out.below hb)
  replace PQ := hid (PQ.out.below hb)
  replace PP := hid (PP.out.below hb)
  replace Z1 := hid (Z1.out.below hb)
  replace D1 := hid (D1.out.below hb)
  replace Z2 := hid (Z2.out.below hb)
  replace D2 := hid (D2.out.below hb)
  replace Z3 := hid (Z3.out.below hb)
  replace Z4 := hid (Z4.out.below hb)
  replace Z5 := hid (Z5.out.below hb)
  replace Z6 := hid (Z6.out.below hb)
  replace Z7 := hid (Z7.out.below hb)
  replace D7 := hid (D7.out.below hb)
  replace BW := hid (BW.out.trans (hb.mono BW.out.size))
  clear hM hC hcS hb hb3 HV HO
  have OK1 := hid (show d1.Ok from by have := readnote_ok t; rw [R1.out] at this; exact this)
  have hdk : (d1, k1) = (d2, k2) := by have := R1.out; rw [readnote_ref, R2.out] at this; exact this.symm
  obtain ⟨rfl, rfl⟩ := Prod.mk.inj hdk
  clear hdk
  have hdk : (d3, k3) = (d4, k4) := by have := R3.out; rw [readreq_ref, R4.out] at this; exact this.symm
  obtain ⟨rfl, rfl⟩ := Prod.mk.inj hdk
  clear hdk
  obtain rfl : V3 = V4 := by rw [← E3.out, ← E4.out]
  have hdk : (d5, k5) = (d6, k6) := by have := R5.out; rw [readrep_ref, R6.out] at this; exact this.symm
  obtain ⟨rfl, rfl⟩ := Prod.mk.inj hdk
  clear hdk
  obtain rfl : V5 = V6 := by rw [← E5.out, ← E6.out]
  have OK7 := hid (show d7.Ok from by have := readpak_ok t; rw [R7.out] at this; exact this)
  have hdk : (d7, k7) = (d8, k8) := by have := R7.out; rw [readpak_ref, R8.out] at this; exact this.symm
  obtain ⟨rfl, rfl⟩ := Prod.mk.inj hdk
  clear hdk
  have HL1 := hid (show V1.length = 13 from by rw [← E1.out]; rfl)
  have HL2 := hid (show V2.length = 13 from by rw [← E2.out]; rfl)
  have HL3 := hid (show V3.length = 7 from by rw [← E3.out]; rfl)
  have HL4 := hid (show V3.length = 7 from by rw [← E4.out]; rfl)
  have HL5 := hid (show V5.length = 6 from by rw [← E5.out]; rfl)
  have HL6 := hid (show V5.length = 6 from by rw [← E6.out]; rfl)
  have HL7 := hid (show V7.length = 7 from by rw [← E7.out]; rfl)
  have HL8 := hid (show V8.length = 7 from by rw [← E8.out]; rfl)
  obtain rfl : n1 = n2 := by rw [← L1.out, ← L2.out]
  obtain rfl : n7 = n8 := by rw [← L7.out, ← L8.out]
  clear R1 R2 R3 R4 R5 R6 R7 R8
  go_upto_region 13 with fail
  repeat (first | (refine wpList_load_blk (o := ⟨some 75, _, _, _, _, _⟩) 25 (.tmp 4) rfl rfl g1 V1 25 rfl Z1.out ⟨_, Tryd.underlying25, rfl⟩ (by rw [HL1.out]; kernel_rfl) ?_) | (refine wpList_load_blk (o := ⟨some 76, _, _, _, _, _⟩) 25 (.tmp 6) rfl rfl g2 V2 25 rfl Z2.out ⟨_, Tryd.underlying25, rfl⟩ (by rw [HL2.out]; kernel_rfl) ?_) | go_step)
  have hC := sameN_calls d1 d1 a1 a2 c1 c2 wb8 OK1.out OK1.out D1.out D2.out
  rw [L1.out, E1.out, E2.out, (sameN_eq _ _).2 rfl] at hC
  refine hC.mono ?_
  rintro e wc ⟨rfl, hb⟩
  replace P0 := hid (P0.out.below hb)
  replace PQ := hid (PQ.out.below hb)
  replace PP := hid (PP.out.below hb)
  replace Z3 := hid (Z3.out.below hb)
  replace Z4 := hid (Z4.out.below hb)
  replace Z5 := hid (Z5.out.below hb)
  replace Z6 := hid (Z6.out.below hb)
  replace Z7 := hid (Z7.out.below hb)
  replace Z8 := hid (Z8.out.below hb)
  replace D7 := hid (D7.out.below hb)
  replace D8 := hid (D8.out.below hb)
  replace BW := hid (BW.out.trans (hb.mono BW.out.size))
  clear hb hC Z1 Z2 D1 D2
  dsimp only
  iterate 16 go_step
  refine wpList_load_blk (o := ⟨some 84, _, _, _, _, _⟩) 43 (.tmp 8) rfl rfl g3 V3 43 rfl Z3.out ⟨_, Tryd.underlying43, rfl⟩ (by rw [HL3.out]; kernel_rfl) ?_
  refine wpList_load_blk (o := ⟨some 85, _, _, _, _, _⟩) 43 (.tmp 10) rfl rfl g4 V3 43 rfl Z4.out ⟨_, Tryd.underlying43, rfl⟩ (by rw [HL4.out]; kernel_rfl) ?_
  refine wpList_eql (o := ⟨some 86, _, _, _, _, _⟩) 43 43 (.tmp 84) (.tmp 85) rfl rfl (.agg V3.toArray) (.agg V3.toArray) rfl rfl true (eqg_req d3 V3 E3.out 84 85 _) (eq_req' d3 V3 E3.out _) ?_
  clear Z3 Z4 E3 E4 HL3 HL4
  generalize V3.toArray = A3
  iterate 18 go_step
  refine wpList_load_blk (o := ⟨some 94, _, _, _, _, _⟩) 45 (.tmp 12) rfl rfl g5 V5 45 rfl Z5.out ⟨_, Tryd.underlying45, rfl⟩ (by rw [HL5.out]; kernel_rfl) ?_
  refine wpList_load_blk (o := ⟨some 95, _, _, _, _, _⟩) 45 (.tmp 14) rfl rfl g6 V5 45 rfl Z6.out ⟨_, Tryd.underlying45, rfl⟩ (by rw [HL6.out]; kernel_rfl) ?_
  refine wpList_eql (o := ⟨some 96, _, _, _, _, _⟩) 45 45 (.tmp 94) (.tmp 95) rfl rfl (.agg V5.toArray) (.agg V5.toArray) rfl rfl true (eqg_rep d5 V5 E5.out 94 95 _) (eq_rep' d5 V5 E5.out _) ?_
  clear Z5 Z6 E5 E6 HL5 HL6
  generalize V5.toArray = A5
  iterate 18 go_step
  refine wpList_load_blk (o := ⟨some 104, _, _, _, _, _⟩) 27 (.tmp 16) rfl rfl g7 V7 27 rfl Z7.out ⟨_, Tryd.underlying27, rfl⟩ (by rw [HL7.out]; kernel_rfl) ?_
  refine wpList_load_blk (o := ⟨some 105, _, _, _, _, _⟩) 27 (.tmp 18) rfl rfl g8 V8 27 rfl Z8.out ⟨_, Tryd.underlying27, rfl⟩ (by rw [HL8.out]; kernel_rfl) ?_
  repeat go_step
  have hC := sameP_calls d7 d7 a7 a8 c7 c8 wc OK7.out OK7.out D7.out D8.out
  rw [L7.out, E7.out, E8.out, (sameP_eq _ _).2 rfl] at hC
  refine hC.mono ?_
  rintro e wd ⟨rfl, hb⟩
  replace P0 := hid (P0.out.below hb)
  replace PQ := hid (PQ.out.below hb)
  replace PP := hid (PP.out.below hb)
  replace BW := hid (BW.out.trans (hb.mono BW.out.size))
  clear hb hC Z7 Z8 D7 D8
  dsimp only
  repeat go_step
  refine (same_n _ _ _ _ _ _ _ _ _ P0.out PP.out LK.out LK.out).mono ?_
  rintro e w' ⟨rfl, rfl⟩
  rw [beq_self_eq_true]
  have hf : k + 1 ≤ cq := by have := PQ.out.fit'; simp only [List.length_append, List.length_cons, List.length_nil] at this; have := LK.out; omega
  have hmx := PQ.out.max'
  simp only [List.length_append, List.length_cons, List.length_nil, LK.out] at hmx
  obtain ⟨bq, oq, rfl, hh⟩ := PQ.out.at (by simp)
  have hc := hh t.length (by simp)
  rw [show (t ++ [165])[t.length]'(by simp) = 165 from by simp, LK.out] at hc
  have hx : (k : Int) < (k : Int) + 1 := by omega
  clear hh
  dsimp only
  go_wp2_with fail
  go_ret
  exact ⟨rfl, BW.out⟩
end Go.Proofs.YtmmcmldcbdaooaaDoor
