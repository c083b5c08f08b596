/- NotePackets: every packet has its bytes, or is refused; it is read again; it comes back untouched. -/
import Derived.Test.YtmmcmldcbdaooaaDoorNoteK
import Derived.Test.YtmmcmldcbdaooaaDoorNoteQ
import Derived.Test.YtmmcmldcbdaooaaDoorNoteR
import Derived.Test.YtmmcmldcbdaooaaDoorRowOps
import Derived.Deep.Cut
import Derived.Deep.CutRange
namespace Go.Proofs.YtmmcmldcbdaooaaDoor
open Go.RowKit Go.Quad _root_.Quad _root_.Quad.Ink

set_option maxRecDepth 100000 in
set_option maxHeartbeats 20000000 in
theorem notePackets_walk (v0 : Value) (w : World) (h0 : RV Tryd.prog w 27 v0) (hq : Laid w) :
    Calls Tryd.prog 7 #[v0] w fun e w' => e = .returned (.bool true) ∧ Below w.heap.size w w' := by
  obtain ⟨n, a, c, rfl, ok, hb⟩ := pak_open h0
  have F := hid hb.fit'
  have mx := hb.max'
  obtain ⟨l, hl⟩ : ∃ l, n.data.length = l := ⟨_, rfl⟩
  obtain ⟨k, hk⟩ : ∃ k, min l 2100 = k := ⟨_, rfl⟩
  have K := hid ((nmin2100 l).trans (by rw [hk]))
  rw [hl] at F mx ⊢
  have FK := hid (show k ≤ c from by have := F.out; omega)
  have LK := hid (show (cutPak n k).data.length = k from by unfold cutPak; rw [List.length_take]; omega)
  have OK := hid (cutPak_ok ok k)
  have HB := hid (show BS w a c (cutPak n k).data from hb.take k)
  have kb : (k : Int) ≤ 2100 := by omega
  have Hq := hid hq
  clear ok hb hl hk h0 hq
  have hst : pakV n (.slice a l c) = pakV n (.slice a l c) := rfl
  have HV := hid (show (pakV (cutPak n k) (.slice a k c)) = (pakV n (.slice a l c)).set 6 (.slice a k c) from rfl)
  obtain ⟨m, hm⟩ : ∃ m, cutPak n k = m := ⟨_, rfl⟩
  rw [hm] at LK OK HB HV
  obtain ⟨g0, hg0⟩ : ∃ g, w.heap.size = g := ⟨_, rfl⟩
  have Z0 := hid (show Blk (w.alloc (.cells (pakV n (.slice a l c)).toArray 27)) g0 (pakV n (.slice a l c)) 27 from by have := blk_alloc w (pakV n (.slice a l c)) 27; rw [hg0] at this; exact this)
  have BW := hid (below_alloc w (.cells (pakV n (.slice a l c)).toArray 27))
  clear hm hst
  go_enter Tryd.func7, Tryd.ntmps7
  go_wp2_with fail
  generalize (w.alloc (.cells (pakV n (.slice a l c)).toArray 27)) = w0 at Z0 BW ⊢
  refine (awake_calls w0 (Hq.out.below BW.out Hq.out.1)).mono ?_
  rintro e w1 ⟨rfl, hb⟩
  replace Z0 := hid (Z0.out.below hb)
  replace BW := hid (BW.out.trans (hb.mono BW.out.size))
  clear hb
  have c0 := Z0.out.get 6 rfl
  have f0 := Z0.out.free 6
  have hfk := FK.out
  go_upto_region 3 with fail
  iterate 16 go_step
  refine wpList_by (o := ⟨some 17, _, _, _, _, _⟩) (fun v w' => v = .int .i64 (k : Int) ∧ w1 = w') (by kernel_rfl) ⟨.int .i64 (k : Int), w1, (by have hk := K.out; go_simp), rfl, rfl⟩ ?_
  rintro v w' ⟨rfl, rfl⟩
  go_upto_region 4 with fail
  clear c0 f0 hfk
  have hT := Z0.out.set 6 (.slice a k c)
  have hB := BW.out.trans ((chg_setCell w1 g0 6 (.slice a k c)).below (B := w.heap.size) BW.out.size (by simp; omega))
  rw [← HV.out] at hT
  generalize w1.setCell ⟨g0, 6, none⟩ (.slice a k c) = w2 at hT hB ⊢
  replace Z0 := hid hT
  replace BW := hid hB
  clear hT hB
  have GW := BW.out.size
  have hb3 := below_alloc w2 (.cells [.int .u8 0, .int .u32 0, .int .u32 0, .int .u32 0, .int .u32 0, .bool false, .slice none 0 0].toArray 27)
  repeat (first | (refine wpList_load_blk (o := ⟨some 20, _, _, _, _, _⟩) 27 (.tmp 1) rfl rfl g0 (pakV m (.slice a k c)) 27 rfl Z0.out ⟨_, Tryd.underlying27, rfl⟩ (by kernel_rfl) ?_) | (refine wpList_store_blk (o := ⟨none, _, 0, _, _, _⟩) 27 (.tmp 3) (.tmp 20) rfl rfl w2.heap.size [.int .u8 0, .int .u32 0, .int .u32 0, .int .u32 0, .int .u32 0, .bool false, .slice none 0 0] (pakV m (.slice a k c)) 27 rfl rfl (blk_alloc w2 [.int .u8 0, .int .u32 0, .int .u32 0, .int .u32 0, .int .u32 0, .bool false, .slice none 0 0] 27) rfl (by kernel_rfl) (by simp [pakV, Value.oneCell']) ?_) | go_step)
  intro w3 hM hC
  have Z0lt := Z0.out.lt
  have hcS := Chg.newer (Chg.of_below [] hb3) hC (by simp)
  replace Z0 := hid (Z0.out.below hcS.below0)
  replace BW := hid (BW.out.trans (hcS.below0.mono BW.out.size))
  have M := hid hM
  have GZ := hid (show g0 < w2.heap.size from by have := Z0lt; omega)
  obtain ⟨g1, hg1⟩ : ∃ g, w2.heap.size = g := ⟨_, rfl⟩
  have GG := hid (show w.heap.size ≤ g1 from by rw [← hg1]; exact GW)
  rw [hg1] at M GZ ⊢
  clear hM hC hcS hb3 hg1 GW Z0lt
  have c0 := (Z0.out.below (below_alloc w3 (.cells #[] 5))).get 6 rfl
  have hown := OB.empty w3
  have hsrc := (HB.out.below BW.out).below (below_alloc w3 (.cells #[] 5))
  have kb2 := LK.out
  go_upto_region 6 with (at_builtin; refine wpList_append_b (.tmp 21) (.tmp 23) _ rfl rfl _ 5 info_u8 under_bytes _ _ hown rfl hsrc (by rw [kb2]; rfl) (by have := LK.out; simp; omega) (by simp) ?_; intro v5 w5 hown1 hg1 hb1 _; have O5 := hid hown1; have B5 := hid ((below_alloc w3 (.cells #[] 5)).trans hb1); clear hown1 hg1 hb1 hown hsrc c0; obtain ⟨a5, n5, c5, rfl, hn5, hs5, hx5⟩ := ob_n O5.out; have cm := (M.out.below B5.out).get 6 rfl; have fm := (M.out.below B5.out).free 6)
  obtain rfl : k = n5 := by rw [← hn5, List.nil_append]; exact LK.out.symm
  clear hn5 cm fm kb2
  rw [List.nil_append] at hs5 O5
  have hM := (M.out.below B5.out).set 6 (.slice a5 k c5)
  have hcS := chg_setCell w5 g1 6 (.slice a5 k c5)
  replace Z0 := hid ((Z0.out.below B5.out).keep hcS (by have := GZ.out; simp; omega))
  replace BW := hid ((BW.out.trans (B5.out.mono BW.out.size)).trans (hcS.below (B := w.heap.size) (by have := B5.out.size; have := BW.out.size; omega) (by have := GG.out; simp; omega)))
  have S5 := hid (cs_chg hs5 hcS (by intro x hx; have := (hx5 x hx).2.2.1; have := M.out.lt; simp; omega))
  replace M := hid (show Blk (w5.setCell ⟨g1, 6, none⟩ (.slice a5 k c5)) g1 (pakV m (.slice a5 k c5)) 27 from hM)
  clear hM hcS O5 B5 hs5 hx5
  generalize w5.setCell ⟨g1, 6, none⟩ (.slice a5 k c5) = w6 at Z0 BW S5 M ⊢
  repeat (first | (refine wpList_load_blk (o := ⟨some 27, _, _, _, _, _⟩) 27 (.tmp 3) rfl rfl g1 (pakV m (.slice a5 k c5)) 27 rfl M.out ⟨_, Tryd.underlying27, rfl⟩ (by kernel_rfl) ?_) | go_step)
  obtain ⟨y0, hy0⟩ : ∃ y, (pakL m).1 = y := ⟨_, rfl⟩
  obtain ⟨e0, he0⟩ : ∃ y, (pakL m).2 = y := ⟨_, rfl⟩
  have HY := hid hy0
  have HE := hid he0
  clear hy0 he0
  have hC := pak_calls m a5 c5 w6 OK.out S5.out (Hq.out.below BW.out Hq.out.1)
  rw [HY.out, HE.out, LK.out] at hC
  refine hC.mono ?_
  rintro e w7 ⟨v, rfl, ho, hb⟩
  obtain ⟨p0, q0, r0, rfl, hn, hs, _⟩ := ob_n ho
  have P0 := hid hs
  have N0 := hid hn
  replace Z0 := hid (Z0.out.below hb)
  replace M := hid (M.out.below hb)
  replace S5 := hid (S5.out.below hb)
  replace BW := hid (BW.out.trans (hb.mono BW.out.size))
  clear ho hs hn hb hC
  dsimp only
  repeat (first | (refine wpList_load_blk (o := ⟨some 32, _, _, _, _, _⟩) 27 (.tmp 1) rfl rfl g0 (pakV m (.slice a k c)) 27 rfl Z0.out ⟨_, Tryd.underlying27, rfl⟩ (by kernel_rfl) ?_) | go_step)
  have hC := refpak_calls m a c w7 OK.out (HB.out.below BW.out) (by rw [LK.out]; omega)
  rw [HY.out, HE.out, LK.out] at hC
  refine hC.mono ?_
  rintro e w8 ⟨v, rfl, ho, hb⟩
  obtain ⟨p1, q1, r1, rfl, hn, hs, _⟩ := ob_n ho
  replace P0 := hid (P0.out.below hb)
  have P1 := hid hs
  have N1 := hid hn
  replace Z0 := hid (Z0.out.below hb)
  replace M := hid (M.out.below hb)
  replace S5 := hid (S5.out.below hb)
  replace BW := hid (BW.out.trans (hb.mono BW.out.size))
  clear ho hs hn hb hC
  dsimp only
  go_wp2_with fail
  refine (same_n _ _ _ _ _ _ _ _ _ P0.out P1.out N0.out N1.out).mono ?_
  rintro e w' ⟨rfl, rfl⟩
  rw [beq_self_eq_true]
  dsimp only
  repeat (first | (refine wpList_load_blk (o := ⟨some 46, _, _, _, _, _⟩) 27 (.tmp 3) rfl rfl g1 (pakV m (.slice a5 k c5)) 27 rfl M.out ⟨_, Tryd.underlying27, rfl⟩ (by kernel_rfl) ?_) | (refine wpList_load_blk (o := ⟨some 47, _, _, _, _, _⟩) 27 (.tmp 1) rfl rfl g0 (pakV m (.slice a k c)) 27 rfl Z0.out ⟨_, Tryd.underlying27, rfl⟩ (by kernel_rfl) ?_) | go_step)
  have hC := sameP_calls m m a5 a c5 c w8 OK.out OK.out S5.out (HB.out.below BW.out)
  rw [LK.out, (sameP_eq m m).2 rfl] at hC
  refine hC.mono ?_
  rintro e w9 ⟨rfl, hb⟩
  replace P0 := hid (P0.out.below hb)
  replace Z0 := hid (Z0.out.below hb)
  replace BW := hid (BW.out.trans (hb.mono BW.out.size))
  clear hb hC P1 N1 S5 M
  dsimp only
  go_upto_region 10 with fail
  rcases pakL_code m with ⟨f, z⟩ | ⟨f, z⟩
  case' inr =>
    obtain rfl : e0 = 4 := by rw [← HE.out, z]
    clear f z
    go_wp2_with fail
    go_ret
    exact ⟨rfl, BW.out⟩
  obtain rfl : e0 = 0 := by rw [← HE.out, z]
  have hy : y0 = tieL (encP m) := by rw [← HY.out, z]
  have RD := hid (show readpakL y0 = (m, 0) from by rw [hy]; exact readpak_enc OK.out f)
  have LB := hid (show y0.length ≤ 100000 from by rw [hy, tieL_length]; have := encP_len OK.out f; omega)
  clear f z hy
  go_wp2_with fail
  have hC := readpak_calls p0 r0 y0 w9 P0.out LB.out (Hq.out.below BW.out Hq.out.1)
  rw [N0.out, RD.out] at hC
  unfold Gotpak at hC
  dsimp only at hC
  rw [LK.out] at hC
  refine hC.mono ?_
  rintro e w10 ⟨a9, c9, rfl, hb9, _, hch⟩
  have hb := hch.below0
  have S9 := hid hb9
  replace Z0 := hid (Z0.out.below hb)
  replace BW := hid (BW.out.trans (hb.mono BW.out.size))
  clear hb hC hch hb9
  dsimp only
  have hb3 := below_alloc w10 (.cells [.int .u8 0, .int .u32 0, .int .u32 0, .int .u32 0, .int .u32 0, .bool false, .slice none 0 0].toArray 27)
  repeat (first | (refine wpList_store_blk (o := ⟨none, _, 0, _, _, _⟩) 27 (.tmp 8) (.tmp 56) rfl rfl w10.heap.size [.int .u8 0, .int .u32 0, .int .u32 0, .int .u32 0, .int .u32 0, .bool false, .slice none 0 0] (pakV m (.slice a9 k c9)) 27 rfl rfl (blk_alloc w10 [.int .u8 0, .int .u32 0, .int .u32 0, .int .u32 0, .int .u32 0, .bool false, .slice none 0 0] 27) rfl (by kernel_rfl) (by simp [pakV, Value.oneCell']) ?_) | go_step)
  intro w11 hM hC
  have hcS := Chg.newer (Chg.of_below [] hb3) hC (by simp)
  replace Z0 := hid (Z0.out.below hcS.below0)
  replace BW := hid (BW.out.trans (hcS.below0.mono BW.out.size))
  replace S9 := hid (S9.out.below hcS.below0)
  have M := hid hM
  obtain ⟨g9, hg9⟩ : ∃ g, w10.heap.size = g := ⟨_, rfl⟩
  rw [hg9] at M ⊢
  clear hM hC hcS hb3 hg9
  repeat (first | (refine wpList_load_blk (o := ⟨some 61, _, _, _, _, _⟩) 27 (.tmp 8) rfl rfl g9 (pakV m (.slice a9 k c9)) 27 rfl M.out ⟨_, Tryd.underlying27, rfl⟩ (by kernel_rfl) ?_) | (refine wpList_load_blk (o := ⟨some 62, _, _, _, _, _⟩) 27 (.tmp 1) rfl rfl g0 (pakV m (.slice a k c)) 27 rfl Z0.out ⟨_, Tryd.underlying27, rfl⟩ (by kernel_rfl) ?_) | go_step)
  have hC := sameP_calls m m a9 a c9 c w11 OK.out OK.out S9.out (HB.out.below BW.out)
  rw [LK.out, (sameP_eq m m).2 rfl] at hC
  refine hC.mono ?_
  rintro e w12 ⟨rfl, hb⟩
  replace BW := hid (BW.out.trans (hb.mono BW.out.size))
  clear hb hC
  dsimp only
  go_wp2_with fail
  go_ret
  exact ⟨rfl, BW.out⟩
end Go.Proofs.YtmmcmldcbdaooaaDoor
