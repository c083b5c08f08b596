/- NoteBodies: of all bytes, rightly tied, the readers tell what the document tells, and none of them is two things. -/
import Derived.Test.YtmmcmldcbdaooaaDoorNoteV
import Derived.Deep.Cut
import Derived.Deep.CutRange
namespace Go.Proofs.YtmmcmldcbdaooaaDoor
open Go.RowKit Go.Quad _root_.Quad _root_.Quad.Ink

theorem readnote_first {p : List UInt8} (h : (readnoteL p).2 = 0) : (numS ((untieL p).1, false)).1 = 1 := by
  unfold readnoteL at h
  split at h
  · rename_i h0; exact (h0 h).elim
  · split at h
    · rename_i h1; exact h1.1
    · exact absurd h (by show ¬ ((4 : Int) = 0); decide)
theorem readreq_first {p : List UInt8} (h : (readreqL p).2 = 0) : (numS ((untieL p).1, false)).1 = 2 := by
  unfold readreqL at h
  split at h
  · rename_i h0; exact (h0 h).elim
  · split at h
    · rename_i h1; exact h1.1
    · exact absurd h (by show ¬ ((4 : Int) = 0); decide)
theorem readrep_first {p : List UInt8} (h : (readrepL p).2 = 0) : (numS ((untieL p).1, false)).1 = 3 := by
  unfold readrepL at h
  split at h
  · rename_i h0; exact (h0 h).elim
  · split at h
    · rename_i h1; exact h1.1
    · exact absurd h (by show ¬ ((4 : Int) = 0); decide)
theorem readpak_first {p : List UInt8} (h : (readpakL p).2 = 0) : (numS ((untieL p).1, false)).1 = 4 := by
  unfold readpakL at h
  split at h
  · rename_i h0; exact (h0 h).elim
  · split at h
    · rename_i h1; exact h1.1
    · exact absurd h (by show ¬ ((4 : Int) = 0); decide)
/-- of four codes one at most says that all is right -/
theorem one_of (y : List UInt8) : ([(readnoteL y).2, (readreqL y).2, (readrepL y).2, (readpakL y).2].countP (· == 0)) ≤ 1 := by
  have h1 := @readnote_first y
  have h2 := @readreq_first y
  have h3 := @readrep_first y
  have h4 := @readpak_first y
  generalize (numS ((untieL y).1, false)).1 = z at h1 h2 h3 h4
  simp only [List.countP_cons, List.countP_nil, beq_iff_eq]
  split <;> split <;> split <;> split <;> first | omega | (simp_all; done) | (simp_all; omega)
def i64v (x : Int) : Value := .int .i64 x
def BdRel (B : World) (L : List Int) (nv iv : Value) (wr : World) : Prop :=
  wr = B ∧ ∃ j : Nat, iv = .int .i64 (j : Int) ∧ j ≤ 4 ∧ nv = .int .i64 (((L.take j).countP (· == 0) : Nat) : Int)

set_option maxRecDepth 100000 in
set_option maxHeartbeats 20000000 in
theorem noteBodies_walk (a : Option Addr) (c : Nat) (l : List UInt8) (w : World) (h : BS w a c l) (hq : Laid w) :
    Calls Tryd.prog 9 #[.slice a l.length c] w fun e w' => e = .returned (.bool true) ∧ Below w.heap.size w w' := by
  have F := hid h.fit'
  have mx := h.max'
  obtain ⟨k, hk⟩ : ∃ k, min l.length 300 = k := ⟨_, rfl⟩
  have K := hid ((nmin300 l.length).trans (by rw [hk]))
  have HB := hid (show BS w a c (l.take k) from h.take k)
  have LK := hid (show (l.take k).length = k from by rw [List.length_take]; omega)
  have kb : (k : Int) ≤ 300 := by omega
  obtain ⟨n, hn⟩ : ∃ n, l.length = n := ⟨_, rfl⟩
  rw [hn] at mx F K ⊢
  have FK := hid (show k ≤ c from by have := F.out; omega)
  have Hq := hid hq
  generalize l.take k = t at HB LK
  clear h hq hk hn
  go_enter Tryd.func9, Tryd.ntmps9
  go_wp2_with fail
  refine (awake_calls w Hq.out).mono ?_
  rintro e w0 ⟨rfl, hb⟩
  have BW := hid hb
  replace HB := hid (HB.out.below hb)
  clear hb
  have hfk := FK.out
  go_upto_region 3 with fail
  repeat (first | (refine wpList_by (o := ⟨some 30, _, _, _, _, _⟩) (fun v w' => v = .int .i64 (k : Int) ∧ w0 = w') (by kernel_rfl) ⟨.int .i64 (k : Int), w0, (by have hk := K.out; go_simp), rfl, rfl⟩ ?_) | go_step)
  rintro v w' ⟨rfl, rfl⟩
  go_wp2_with fail
  have hC := reftie_calls a c t w0 HB.out (by rw [LK.out]; omega)
  rw [LK.out] at hC
  refine hC.mono ?_
  rintro e w1 ⟨v, rfl, ho, hb⟩
  obtain ⟨p0, q0, r0, rfl, hn0, hs, _⟩ := ob_n ho
  obtain ⟨y, hy⟩ : ∃ y, tieL t = y := ⟨_, rfl⟩
  rw [hy] at hs hn0
  have LB := hid (show y.length ≤ 100000 from by rw [← hy, tieL_length, LK.out]; omega)
  have P0 := hid hs
  have N0 := hid hn0
  replace BW := hid (BW.out.trans (hb.mono BW.out.size))
  clear ho hs hb hC hn0 hy HB LK F FK hfk K
  dsimp only
  go_wp2_with fail
  have hC := readnote_calls p0 r0 y w1 P0.out LB.out (Hq.out.below BW.out Hq.out.1)
  rw [N0.out] at hC
  unfold Gotnote at hC
  obtain ⟨d1, k1, hd1⟩ : ∃ d k, readnoteL y = (d, k) := ⟨_, _, rfl⟩
  rw [hd1] at hC
  have R1 := hid hd1
  clear hd1
  dsimp only at hC
  refine hC.mono ?_
  rintro e wa1 ⟨a1, c1, rfl, hbs, _, hch⟩
  clear hbs
  have hb := hch.below0
  clear hch
  replace P0 := hid (P0.out.below hb)
  replace BW := hid (BW.out.trans (hb.mono BW.out.size))
  clear hb hC
  dsimp only
  have HV := hid (show (noteV d1 (.slice a1 d1.blob.length c1)).length = 13 from rfl)
  have HO := hid (show ∀ u ∈ (noteV d1 (.slice a1 d1.blob.length c1)), u.oneCell' = true from by simp [noteV, Value.oneCell'])
  obtain ⟨V1, hV1⟩ : ∃ v, (noteV d1 (.slice a1 d1.blob.length c1)) = v := ⟨_, rfl⟩
  rw [hV1] at HV HO ⊢
  clear hV1
  have hb3 := below_alloc wa1 (.cells [.int .u8 0, .int .u8 0, .int .u32 0, .int .u32 0, .int .u32 0, .int .u32 0, .int .u32 0, .int .u32 0, .int .u8 0, .int .i64 0, .int .u32 0, .int .u32 0, .slice none 0 0].toArray 25)
  repeat (first | (refine wpList_store_blk (o := ⟨none, _, 0, _, _, _⟩) 25 (.tmp 5) (.tmp 38) rfl rfl wa1.heap.size [.int .u8 0, .int .u8 0, .int .u32 0, .int .u32 0, .int .u32 0, .int .u32 0, .int .u32 0, .int .u32 0, .int .u8 0, .int .i64 0, .int .u32 0, .int .u32 0, .slice none 0 0] V1 25 rfl rfl (blk_alloc wa1 [.int .u8 0, .int .u8 0, .int .u32 0, .int .u32 0, .int .u32 0, .int .u32 0, .int .u32 0, .int .u32 0, .int .u8 0, .int .i64 0, .int .u32 0, .int .u32 0, .slice none 0 0] 25) HV.out (by rw [HV.out]; kernel_rfl) HO.out ?_) | go_step)
  intro wb1 hM hC
  have hcS := Chg.newer (Chg.of_below [] hb3) hC (by simp)
  have hb := hcS.below0
  replace P0 := hid (P0.out.below hb)
  replace BW := hid (BW.out.trans (hb.mono BW.out.size))
  clear hM hC hcS hb hb3 HV HO
  go_wp2_with fail
  have hC := readreq_calls p0 r0 y wb1 P0.out LB.out (Hq.out.below BW.out Hq.out.1)
  rw [N0.out] at hC
  unfold Gotreq at hC
  obtain ⟨d2, k2, hd2⟩ : ∃ d k, readreqL y = (d, k) := ⟨_, _, rfl⟩
  rw [hd2] at hC
  have R2 := hid hd2
  clear hd2
  dsimp only at hC
  refine hC.mono ?_
  rintro e wa2 ⟨rfl, hch⟩
  have hb := hch.below0
  clear hch
  replace P0 := hid (P0.out.below hb)
  replace BW := hid (BW.out.trans (hb.mono BW.out.size))
  clear hb hC
  dsimp only
  have HV := hid (show (reqV d2).length = 7 from rfl)
  have HO := hid (show ∀ u ∈ (reqV d2), u.oneCell' = true from by simp [reqV, Value.oneCell'])
  obtain ⟨V2, hV2⟩ : ∃ v, (reqV d2) = v := ⟨_, rfl⟩
  rw [hV2] at HV HO ⊢
  clear hV2
  have hb3 := below_alloc wa2 (.cells [.int .u8 0, .int .u32 0, .int .u8 0, .int .u8 0, .int .i64 0, .int .i64 0, .int .u32 0].toArray 43)
  repeat (first | (refine wpList_store_blk (o := ⟨none, _, 0, _, _, _⟩) 43 (.tmp 7) (.tmp 43) rfl rfl wa2.heap.size [.int .u8 0, .int .u32 0, .int .u8 0, .int .u8 0, .int .i64 0, .int .i64 0, .int .u32 0] V2 43 rfl rfl (blk_alloc wa2 [.int .u8 0, .int .u32 0, .int .u8 0, .int .u8 0, .int .i64 0, .int .i64 0, .int .u32 0] 43) HV.out (by rw [HV.out]; kernel_rfl) HO.out ?_) | go_step)
  intro wb2 hM hC
  have hcS := Chg.newer (Chg.of_below [] hb3) hC (by simp)
  have hb := hcS.below0
  replace P0 := hid (P0.out.below hb)
  replace BW := hid (BW.out.trans (hb.mono BW.out.size))
  clear hM hC hcS hb hb3 HV HO
  go_wp2_with fail
  have hC := readrep_calls p0 r0 y wb2 P0.out LB.out (Hq.out.below BW.out Hq.out.1)
  rw [N0.out] at hC
  unfold Gotrep at hC
  obtain ⟨d3, k3, hd3⟩ : ∃ d k, readrepL y = (d, k) := ⟨_, _, rfl⟩
  rw [hd3] at hC
  have R3 := hid hd3
  clear hd3
  dsimp only at hC
  refine hC.mono ?_
  rintro e wa3 ⟨rfl, hch⟩
  have hb := hch.below0
  clear hch
  replace P0 := hid (P0.out.below hb)
  replace BW := hid (BW.out.trans (hb.mono BW.out.size))
  clear hb hC
  dsimp only
  have HV := hid (show (repV d3).length = 6 from rfl)
  have HO := hid (show ∀ u ∈ (repV d3), u.oneCell' = true from by simp [repV, Value.oneCell'])
  obtain ⟨V3, hV3⟩ : ∃ v, (repV d3) = v := ⟨_, rfl⟩
  rw [hV3] at HV HO ⊢
  clear hV3
  have hb3 := below_alloc wa3 (.cells [.int .u8 0, .int .u32 0, .int .i64 0, .int .u32 0, .int .u8 0, .int .i64 0].toArray 45)
  repeat (first | (refine wpList_store_blk (o := ⟨none, _, 0, _, _, _⟩) 45 (.tmp 9) (.tmp 48) rfl rfl wa3.heap.size [.int .u8 0, .int .u32 0, .int .i64 0, .int .u32 0, .int .u8 0, .int .i64 0] V3 45 rfl rfl (blk_alloc wa3 [.int .u8 0, .int .u32 0, .int .i64 0, .int .u32 0, .int .u8 0, .int .i64 0] 45) HV.out (by rw [HV.out]; kernel_rfl) HO.out ?_) | go_step)
  intro wb3 hM hC
  have hcS := Chg.newer (Chg.of_below [] hb3) hC (by simp)
  have hb := hcS.below0
  replace P0 := hid (P0.out.below hb)
  replace BW := hid (BW.out.trans (hb.mono BW.out.size))
  clear hM hC hcS hb hb3 HV HO
  go_wp2_with fail
  have hC := readpak_calls p0 r0 y wb3 P0.out LB.out (Hq.out.below BW.out Hq.out.1)
  rw [N0.out] at hC
  unfold Gotpak at hC
  obtain ⟨d4, k4, hd4⟩ : ∃ d k, readpakL y = (d, k) := ⟨_, _, rfl⟩
  rw [hd4] at hC
  have R4 := hid hd4
  clear hd4
  dsimp only at hC
  refine hC.mono ?_
  rintro e wa4 ⟨a4, c4, rfl, hbs, _, hch⟩
  clear hbs
  have hb := hch.below0
  clear hch
  replace P0 := hid (P0.out.below hb)
  replace BW := hid (BW.out.trans (hb.mono BW.out.size))
  clear hb hC
  dsimp only
  have HV := hid (show (pakV d4 (.slice a4 d4.data.length c4)).length = 7 from rfl)
  have HO := hid (show ∀ u ∈ (pakV d4 (.slice a4 d4.data.length c4)), u.oneCell' = true from by simp [pakV, Value.oneCell'])
  obtain ⟨V4, hV4⟩ : ∃ v, (pakV d4 (.slice a4 d4.data.length c4)) = v := ⟨_, rfl⟩
  rw [hV4] at HV HO ⊢
  clear hV4
  have hb3 := below_alloc wa4 (.cells [.int .u8 0, .int .u32 0, .int .u32 0, .int .u32 0, .int .u32 0, .bool false, .slice none 0 0].toArray 27)
  repeat (first | (refine wpList_store_blk (o := ⟨none, _, 0, _, _, _⟩) 27 (.tmp 11) (.tmp 53) rfl rfl wa4.heap.size [.int .u8 0, .int .u32 0, .int .u32 0, .int .u32 0, .int .u32 0, .bool false, .slice none 0 0] V4 27 rfl rfl (blk_alloc wa4 [.int .u8 0, .int .u32 0, .int .u32 0, .int .u32 0, .int .u32 0, .bool false, .slice none 0 0] 27) HV.out (by rw [HV.out]; kernel_rfl) HO.out ?_) | go_step)
  intro wb4 hM hC
  have hcS := Chg.newer (Chg.of_below [] hb3) hC (by simp)
  have hb := hcS.below0
  replace P0 := hid (P0.out.below hb)
  replace BW := hid (BW.out.trans (hb.mono BW.out.size))
  clear hM hC hcS hb hb3 HV HO
  go_wp2_with fail
  have hC := refreadnote_calls p0 r0 q0 y wb4 P0.out N0.out (by have := (LB.out : y.length ≤ 100000); omega)
  unfold Refgotnote at hC
  obtain ⟨d5, k5, hd5⟩ : ∃ d k, refreadnoteL y = (d, k) := ⟨_, _, rfl⟩
  rw [hd5] at hC
  have R5 := hid hd5
  clear hd5
  dsimp only at hC
  refine hC.mono ?_
  rintro e wa5 ⟨a5, c5, rfl, hbs, hb⟩
  clear hbs
  replace P0 := hid (P0.out.below hb)
  replace BW := hid (BW.out.trans (hb.mono BW.out.size))
  clear hb hC
  dsimp only
  have HV := hid (show (noteV d5 (.slice a5 d5.blob.length c5)).length = 13 from rfl)
  have HO := hid (show ∀ u ∈ (noteV d5 (.slice a5 d5.blob.length c5)), u.oneCell' = true from by simp [noteV, Value.oneCell'])
  obtain ⟨V5, hV5⟩ : ∃ v, (noteV d5 (.slice a5 d5.blob.length c5)) = v := ⟨_, rfl⟩
  rw [hV5] at HV HO ⊢
  clear hV5
  have hb3 := below_alloc wa5 (.cells [.int .u8 0, .int .u8 0, .int .u32 0, .int .u32 0, .int .u32 0, .int .u32 0, .int .u32 0, .int .u32 0, .int .u8 0, .int .i64 0, .int .u32 0, .int .u32 0, .slice none 0 0].toArray 25)
  repeat (first | (refine wpList_store_blk (o := ⟨none, _, 0, _, _, _⟩) 25 (.tmp 13) (.tmp 58) rfl rfl wa5.heap.size [.int .u8 0, .int .u8 0, .int .u32 0, .int .u32 0, .int .u32 0, .int .u32 0, .int .u32 0, .int .u32 0, .int .u8 0, .int .i64 0, .int .u32 0, .int .u32 0, .slice none 0 0] V5 25 rfl rfl (blk_alloc wa5 [.int .u8 0, .int .u8 0, .int .u32 0, .int .u32 0, .int .u32 0, .int .u32 0, .int .u32 0, .int .u32 0, .int .u8 0, .int .i64 0, .int .u32 0, .int .u32 0, .slice none 0 0] 25) HV.out (by rw [HV.out]; kernel_rfl) HO.out ?_) | go_step)
  intro wb5 hM hC
  have hcS := Chg.newer (Chg.of_below [] hb3) hC (by simp)
  have hb := hcS.below0
  replace P0 := hid (P0.out.below hb)
  replace BW := hid (BW.out.trans (hb.mono BW.out.size))
  clear hM hC hcS hb hb3 HV HO
  go_wp2_with fail
  have hC := refreadreq_calls p0 r0 q0 y wb5 P0.out N0.out (by have := (LB.out : y.length ≤ 100000); omega)
  unfold Refgotreq at hC
  obtain ⟨d6, k6, hd6⟩ : ∃ d k, refreadreqL y = (d, k) := ⟨_, _, rfl⟩
  rw [hd6] at hC
  have R6 := hid hd6
  clear hd6
  dsimp only at hC
  refine hC.mono ?_
  rintro e wa6 ⟨rfl, hb⟩
  replace P0 := hid (P0.out.below hb)
  replace BW := hid (BW.out.trans (hb.mono BW.out.size))
  clear hb hC
  dsimp only
  have HV := hid (show (reqV d6).length = 7 from rfl)
  have HO := hid (show ∀ u ∈ (reqV d6), u.oneCell' = true from by simp [reqV, Value.oneCell'])
  obtain ⟨V6, hV6⟩ : ∃ v, (reqV d6) = v := ⟨_, rfl⟩
  rw [hV6] at HV HO ⊢
  clear hV6
  have hb3 := below_alloc wa6 (.cells [.int .u8 0, .int .u32 0, .int .u8 0, .int .u8 0, .int .i64 0, .int .i64 0, .int .u32 0].toArray 43)
  repeat (first | (refine wpList_store_blk (o := ⟨none, _, 0, _, _, _⟩) 43 (.tmp 15) (.tmp 63) rfl rfl wa6.heap.size [.int .u8 0, .int .u32 0, .int .u8 0, .int .u8 0, .int .i64 0, .int .i64 0, .int .u32 0] V6 43 rfl rfl (blk_alloc wa6 [.int .u8 0, .int .u32 0, .int .u8 0, .int .u8 0, .int .i64 0, .int .i64 0, .int .u32 0] 43) HV.out (by rw [HV.out]; kernel_rfl) HO.out ?_) | go_step)
  intro wb6 hM hC
  have hcS := Chg.newer (Chg.of_below [] hb3) hC (by simp)
  have hb := hcS.below0
  replace P0 := hid (P0.out.below hb)
  replace BW := hid (BW.out.trans (hb.mono BW.out.size))
  clear hM hC hcS hb hb3 HV HO
  go_wp2_with fail
  have hC := refreadrep_calls p0 r0 q0 y wb6 P0.out N0.out (by have := (LB.out : y.length ≤ 100000); omega)
  unfold Refgotrep at hC
  obtain ⟨d7, k7, hd7⟩ : ∃ d k, refreadrepL y = (d, k) := ⟨_, _, rfl⟩
  rw [hd7] at hC
  have R7 := hid hd7
  clear hd7
  dsimp only at hC
  refine hC.mono ?_
  rintro e wa7 ⟨rfl, hb⟩
  replace P0 := hid (P0.out.below hb)
  replace BW := hid (BW.out.trans (hb.mono BW.out.size))
  clear hb hC
  dsimp only
  have HV := hid (show (repV d7).length = 6 from rfl)
  have HO := hid (show ∀ u ∈ (repV d7), u.oneCell' = true from by simp [repV, Value.oneCell'])
  obtain ⟨V7, hV7⟩ : ∃ v, (repV d7) = v := ⟨_, rfl⟩
  rw [hV7] at HV HO ⊢
  clear hV7
  have hb3 := below_alloc wa7 (.cells [.int .u8 0, .int .u32 0, .int .i64 0, .int .u32 0, .int .u8 0, .int .i64 0].toArray 45)
  repeat (first | (refine wpList_store_blk (o := ⟨none, _, 0, _, _, _⟩) 45 (.tmp 17) (.tmp 68) rfl rfl wa7.heap.size [.int .u8 0, .int .u32 0, .int .i64 0, .int .u32 0, .int .u8 0, .int .i64 0] V7 45 rfl rfl (blk_alloc wa7 [.int .u8 0, .int .u32 0, .int .i64 0, .int .u32 0, .int .u8 0, .int .i64 0] 45) HV.out (by rw [HV.out]; kernel_rfl) HO.out ?_) | go_step)
  intro wb7 hM hC
  have hcS := Chg.newer (Chg.of_below [] hb3) hC (by simp)
  have hb := hcS.below0
  replace P0 := hid (P0.out.below hb)
  replace BW := hid (BW.out.trans (hb.mono BW.out.size))
  clear hM hC hcS hb hb3 HV HO
  go_wp2_with fail
  have hC := refreadpak_calls p0 r0 q0 y wb7 P0.out N0.out (by have := (LB.out : y.length ≤ 100000); omega)
  unfold Refgotpak at hC
  obtain ⟨d8, k8, hd8⟩ : ∃ d k, refreadpakL y = (d, k) := ⟨_, _, rfl⟩
  rw [hd8] at hC
  have R8 := hid hd8
  clear hd8
  dsimp only at hC
  refine hC.mono ?_
  rintro e wa8 ⟨a8, c8, rfl, hbs, hb⟩
  clear hbs
  replace P0 := hid (P0.out.below hb)
  replace BW := hid (BW.out.trans (hb.mono BW.out.size))
  clear hb hC
  dsimp only
  have HV := hid (show (pakV d8 (.slice a8 d8.data.length c8)).length = 7 from rfl)
  have HO := hid (show ∀ u ∈ (pakV d8 (.slice a8 d8.data.length c8)), u.oneCell' = true from by simp [pakV, Value.oneCell'])
  obtain ⟨V8, hV8⟩ : ∃ v, (pakV d8 (.slice a8 d8.data.length c8)) = v := ⟨_, rfl⟩
  rw [hV8] at HV HO ⊢
  clear hV8
  have hb3 := below_alloc wa8 (.cells [.int .u8 0, .int .u32 0, .int .u32 0, .int .u32 0, .int .u32 0, .bool false, .slice none 0 0].toArray 27)
  repeat (first | (refine wpList_store_blk (o := ⟨none, _, 0, _, _, _⟩) 27 (.tmp 19) (.tmp 73) rfl rfl wa8.heap.size [.int .u8 0, .int .u32 0, .int .u32 0, .int .u32 0, .int .u32 0, .bool false, .slice none 0 0] V8 27 rfl rfl (blk_alloc wa8 [.int .u8 0, .int .u32 0, .int .u32 0, .int .u32 0, .int .u32 0, .bool false, .slice none 0 0] 27) HV.out (by rw [HV.out]; kernel_rfl) HO.out ?_) | go_step)
  intro wb8 hM hC
  have hcS := Chg.newer (Chg.of_below [] hb3) hC (by simp)
  have hb := hcS.below0
  replace P0 := hid (P0.out.below hb)
  replace BW := hid (BW.out.trans (hb.mono BW.out.size))
  clear hM hC hcS hb hb3 HV HO
  obtain rfl : k1 = k5 := by have := R1.out; rw [readnote_ref, R5.out] at this; exact (congrArg (·.2) this).symm
  obtain rfl : k2 = k6 := by have := R2.out; rw [readreq_ref, R6.out] at this; exact (congrArg (·.2) this).symm
  obtain rfl : k3 = k7 := by have := R3.out; rw [readrep_ref, R7.out] at this; exact (congrArg (·.2) this).symm
  obtain rfl : k4 = k8 := by have := R4.out; rw [readpak_ref, R8.out] at this; exact (congrArg (·.2) this).symm
  have ONE := hid (show [k1, k2, k3, k4].countP (· == 0) ≤ 1 from by have := one_of y; rw [R1.out, R2.out, R3.out, R4.out] at this; exact this)
  clear R1 R2 R3 R4 R5 R6 R7 R8 P0 N0 LB
  have hM := blk_alloc wb8 [.int .i64 k1, .int .i64 k2, .int .i64 k3, .int .i64 k4] 29
  have hb3 := below_alloc wb8 (.cells [.int .i64 k1, .int .i64 k2, .int .i64 k3, .int .i64 k4].toArray 29)
  go_wp2_with fail
  generalize hB : wb8.alloc (.cells [.int .i64 k1, .int .i64 k2, .int .i64 k3, .int .i64 k4].toArray 29) = wB at hM hb3 ⊢
  generalize hg : wb8.heap.size = g at hM ⊢
  replace BW := hid (BW.out.trans (hb3.mono BW.out.size))
  obtain ⟨L, hL⟩ : ∃ L, [k1, k2, k3, k4] = L := ⟨_, rfl⟩
  have Z := hid (show Blk wB g (L.map i64v) 29 from by rw [← hL]; exact hM)
  have HL := hid (show L.length = 4 from by rw [← hL]; rfl)
  rw [hL] at ONE
  clear hM hb3 hB hg hL
  go_loopw [21, 23, 81] (fun nv _ iv wr => BdRel wB L nv iv wr) (fun _ _ iv _ => 4 - (intOf iv).toNat)
  case atStart => exact ⟨rfl, 0, rfl, Nat.zero_le _, rfl⟩
  case round =>
    obtain ⟨rfl, j, rfl, hj, rfl⟩ := hrel
    by_cases hlt : j < 4
    · have hj' : (j : Int) < 4 := by omega
      have hlen := HL.out
      have d := Z.out.get j (v := i64v (L[j]'(by omega))) (by rw [List.getElem?_map, List.getElem?_eq_getElem (by omega)]; rfl)
      have T := hid (show (L.take (j + 1)).countP (· == 0) = (L.take j).countP (· == 0) + (if L[j]'(by omega) = 0 then 1 else 0) from by
        rw [List.take_succ_eq_append_getElem (by omega), List.countP_append]
        simp [List.countP_cons])
      have hcle := hid (show (L.take j).countP (· == 0) ≤ 4 from Nat.le_trans List.countP_le_length (by rw [List.length_take]; omega))
      unfold i64v at d
      generalize L[j]'(by omega) = x at d T
      clear hlen
      obtain ⟨q, hq⟩ : ∃ q, (L.take j).countP (· == 0) = q := ⟨_, rfl⟩
      rw [hq] at T hcle ⊢
      clear hq
      have hq4 : (q : Int) ≤ 4 := by have := hcle.out; omega
      by_cases h0 : x = 0
      · subst h0
        go_wp2_with fail
        have R : BdRel wr L (.int .i64 ((q : Int) + 1)) (.int .i64 ((j : Int) + 1)) wr := ⟨rfl, j + 1, by go_num, by omega, by have := T.out; rw [if_pos rfl] at this; rw [this]; go_num⟩
        refine ⟨?_, by simp [intOf]; omega⟩
        first | exact R | ((repeat apply Exists.intro); refine ⟨R, ?_⟩; and_intros <;> rfl)
      · have hx : (x == 0) = false := by simpa using h0
        have T0 := hid (show (L.take (j + 1)).countP (· == 0) = q from by have := T.out; rw [if_neg h0] at this; exact this)
        clear h0 T
        go_wp2_with fail
        have R : BdRel wr L (.int .i64 (q : Int)) (.int .i64 ((j : Int) + 1)) wr := ⟨rfl, j + 1, by go_num, by omega, by rw [T0.out]⟩
        refine ⟨?_, by simp [intOf]; omega⟩
        first | exact R | ((repeat apply Exists.intro); refine ⟨R, ?_⟩; and_intros <;> rfl)
    · have hj' : ¬ ((j : Int) < 4) := by omega
      have hq1 : (L.take j).countP (· == 0) ≤ 1 := by rw [List.take_of_length_le (by have := HL.out; omega)]; exact ONE.out
      obtain ⟨q, hq⟩ : ∃ q, (L.take j).countP (· == 0) = q := ⟨_, rfl⟩
      rw [hq] at hq1 ⊢
      have hq4 : (q : Int) ≤ 1 := by omega
      clear hq hq1 ONE
      go_wp2_with fail
      go_ret
      exact ⟨rfl, BW.out⟩
end Go.Proofs.YtmmcmldcbdaooaaDoor
