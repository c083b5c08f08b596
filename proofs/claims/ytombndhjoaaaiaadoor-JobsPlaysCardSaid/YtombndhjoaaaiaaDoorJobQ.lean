/- The walks of layer 16: what a job does, and what a nil table answers; asked of the one: that the table is whole. -/
import Derived.Test.YtombndhjoaaaiaaDoorJobM
namespace Go.Proofs.YtombndhjoaaaiaaDoor
open Go.RowKit Go.Quad _root_.Quad _root_.Quad.Ink

set_option maxRecDepth 100000 in
set_option maxHeartbeats 4000000 in
theorem state_calls (w : World) (B T b : Nat) (ov : Value) (t : TbD) (id : Nat) (s : Nat) (h : IsTb w B T b ov t) (hI : id < 4294967296) (hn : s < 256) :
    Calls Tryd.prog 27 #[.pointer (some ⟨T, 0, none⟩), .int .u32 (id : Int), .int .u8 (s : Int)] w (TbTo w B T b ov (stateT t id s).1 (.int .i64 (stateT t id s).2)) := by
  have hC := hid (get_calls w B T b ov t id h hI)
  have H := hid h
  have hz := getT_zero h.ok (id := id)
  have hrg := getT_rng h.ok (id := id)
  have hcs := getT_cases t id
  have hok := stateT_ok h.ok id s
  have hst := h.ok.st
  have hfin : stateT t id s = if 3 < s then (t, 1) else if (getT t id).2 ≠ 0 then (t, (getT t id).2) else (setT t { (getT t id).1 with state := s }, 0) := rfl
  by_cases hs3 : 3 < s
  · have hs3' : (3 : Int) < (s : Int) := by omega
    have HF2 := hid (show stateT t id s = (t, 1) from by rw [hfin, if_pos hs3])
    clear h hok hst hz hrg hcs hfin hC
    go_enter Tryd.func27, Tryd.ntmps27
    go_wp2_with fail
    go_ret
    rw [HF2.out]
    exact TbTo.same H.out (Below.refl _ _)
  have hs3' : ¬ ((3 : Int) < (s : Int)) := by omega
  obtain ⟨⟨j, ej⟩, hg⟩ : ∃ r, getT t id = r := ⟨_, rfl⟩
  rw [hg] at hC hz hrg hcs hfin
  dsimp only at hC hz hrg hcs hfin
  have HF := hid hfin
  have HOK := hid hok
  have Hst := hid hst
  clear h hg hfin hok hst
  go_enter Tryd.func27, Tryd.ntmps27
  go_upto_region 4 with (first | (go_at_call 40; go_loud (refine hC.out.mono ?_; rintro e w2 ⟨rfl, hb2⟩; have B2 := hid hb2; clear hb2; simp only [getRes])) | (refine wpListQ_alloc (o := ⟨some 7, _, _, _, _, _⟩) 37 rfl rfl zjob 6 info_job ?_) | (refine wpListQ_store_new (o := ⟨none, _, 0, _, _, _⟩) rfl 37 (.tmp 7) (.tmp 19) rfl zjob (jobV j).toArray rfl rfl size_job rfl (all_oneCell_toArray (jobV_one _)) ?_))
  obtain ⟨z, hz6⟩ : ∃ z, w2.heap.size = z := ⟨_, rfl⟩
  have b6 := below_alloc w2 (.cells (jobV j).toArray 37)
  have K6 := hid (show Blk (w2.alloc (.cells (jobV j).toArray 37)) z (jobV j) 37 from by rw [← hz6]; exact blk_alloc w2 (jobV j) 37)
  have B6 := hid (B2.out.trans (b6.mono B2.out.size))
  have Z6 := hid (show w.heap.size ≤ z from by rw [← hz6]; exact B2.out.size)
  rw [hz6]
  generalize (w2.alloc (.cells (jobV j).toArray 37)) = w6 at K6 B6 ⊢
  clear b6 hz6 B2 hC
  rcases hcs with h0 | h6 | h10
  · subst h0
    have HZ := hid (hz rfl)
    have HRG := hid (hrg rfl)
    have hst4 : j.state < 4 := Hst.out j HZ.out.1
    have c4 := K6.out.get 4 rfl
    have f4 := K6.out.free 4
    clear hz hrg
    have HF2 := hid (show stateT t id s = (setT t { j with state := s }, 0) from by rw [HF.out, if_neg hs3, if_neg (by decide)])
    clear HF
    have K7 := hid (show Blk (w6.setCell ⟨z, 4, none⟩ (.int .u8 (s : Int))) z (jobV { j with state := s }) 37 from K6.out.set 4 (.int .u8 (s : Int)))
    have B7 := hid (blk_below_set B6.out (chg_setCell w6 z 4 (.int .u8 (s : Int))) Z6.out)
    go_upto_region 6 with fail
    clear c4 f4
    generalize (w6.setCell ⟨z, 4, none⟩ (.int .u8 (s : Int))) = w7 at K7 B7 ⊢
    have H7 := hid (H.out.below B7.out)
    have c2 := H7.out.own.get 2 rfl
    have k0 := K7.out.get 0 rfl
    have k1 := K7.out.get 1 rfl
    have k2 := K7.out.get 2 rfl
    have k3 := K7.out.get 3 rfl
    have k4 := K7.out.get 4 rfl
    have k5 := K7.out.get 5 rfl
    dsimp only at k0 k1 k2 k3 k4 k5
    go_still_tail 6, (by kernel_rfl)
    change wpList _ _ _ _ _ w7.drew
    clear c2 k0 k1 k2 k3 k4 k5
    have B8 := hid (B7.out.trans ((below_drew w7).mono B7.out.size))
    have H8 := hid (H7.out.below (below_drew w7))
    generalize w7.drew = w8 at B8 H8 ⊢
    obtain ⟨D, hD, hM⟩ := H8.out.map
    have HD := hid hD
    have hlen := H8.out.ok.few.1
    have M9 := hid (hM.set (j := { j with state := s }) ⟨j, HZ.out.1, rfl⟩)
    have e0 : idK ({ j with state := s } : JobD).id = idK id := congrArg idK HZ.out.2.1
    have M9' := M9.out
    rw [e0] at M9'
    replace M9 := hid M9'
    clear hD hM e0 M9'
    go_wp2_with (at_mapUpdate; go_must (refine wpList_mapUpdate_in _ rfl _ _ _ 72 rfl 28 37 keyed32 Tryd.underlying72 jobR b _ D rfl HD.out (by unfold maxLen; omega) (.int .u32 (id : Int)) (.agg (jobV { j with state := s }).toArray) (idK id) rfl rfl (keyOf32 hI) (jobDat { j with state := s }) [] (jobR_mk _) ?_; intro w9 hown9 hturn9))
    go_ret
    rw [HF2.out]
    have C9 : Chg [b] w8 w9 := by simpa using chg_grown hturn9.grown
    have hne := H8.out.ne
    have HOK2 := HOK.out
    rw [HF2.out] at HOK2
    refine TbTo.after H.out B8.out ⟨rfl, ov, ⟨H8.out.own.keep C9 (by simp; exact hne.1), ⟨_, ?_, M9.out⟩, H8.out.over.chg C9 (by intro k hk hm; simp at hm; subst hm; exact hne.2.2 hk), H8.out.ge, HOK2⟩, C9.mono (by intro k hk; simp at hk; simp [tbS, hk]), fun k hk => .inl (by simp [tbS, hk])⟩
    have := owns_tight hown9
    rw [M9.out.size] at this
    exact this
  · subst h6
    have HF2 := hid (show stateT t id s = (t, 6) from by rw [HF.out, if_neg hs3, if_pos (by decide)])
    clear hz hrg HF
    go_wp2_with fail
    go_ret
    rw [HF2.out]
    exact TbTo.same H.out B6.out
  · subst h10
    have HF2 := hid (show stateT t id s = (t, 10) from by rw [HF.out, if_neg hs3, if_pos (by decide)])
    clear hz hrg HF
    go_wp2_with fail
    go_ret
    rw [HF2.out]
    exact TbTo.same H.out B6.out


set_option maxRecDepth 100000 in
set_option maxHeartbeats 2000000 in
theorem nilfinish_calls (w : World) (id : Nat) : Calls Tryd.prog 14 #[.pointer none, .int .u32 (id : Int)] w fun e w' => e = .returned (.int .i64 6) ∧ Below w.heap.size w w' := by
  have hC := hid (nilget_calls w id)
  go_enter Tryd.func14, Tryd.ntmps14
  go_wp2_with (first | (go_at_call 40; go_loud (refine hC.out.mono ?_; rintro e w2 ⟨rfl, hb2⟩; have B2 := hid hb2; clear hb2; simp only [getRes])) | (refine wpListQ_alloc (o := ⟨some 5, _, _, _, _, _⟩) 37 rfl rfl zjob 6 info_job ?_) | (refine wpListQ_store_new (o := ⟨none, _, 0, _, _, _⟩) rfl 37 (.tmp 5) (.tmp 11) rfl zjob (jobV jobZ).toArray rfl rfl size_job rfl (all_oneCell_toArray (jobV_one _)) ?_))
  go_ret
  exact ⟨rfl, B2.out.trans ((below_alloc w2 _).mono B2.out.size)⟩
set_option maxRecDepth 100000 in
set_option maxHeartbeats 2000000 in
theorem nilcredit_calls (w : World) (id : Nat) (n : Int) : Calls Tryd.prog 12 #[.pointer none, .int .u32 (id : Int), .int .i64 n] w fun e w' => e = .returned (.int .i64 6) ∧ Below w.heap.size w w' := by
  have hC := hid (nilget_calls w id)
  go_enter Tryd.func12, Tryd.ntmps12
  go_wp2_with (first | (go_at_call 40; go_loud (refine hC.out.mono ?_; rintro e w2 ⟨rfl, hb2⟩; have B2 := hid hb2; clear hb2; simp only [getRes])) | (refine wpListQ_alloc (o := ⟨some 7, _, _, _, _, _⟩) 37 rfl rfl zjob 6 info_job ?_) | (refine wpListQ_store_new (o := ⟨none, _, 0, _, _, _⟩) rfl 37 (.tmp 7) (.tmp 13) rfl zjob (jobV jobZ).toArray rfl rfl size_job rfl (all_oneCell_toArray (jobV_one _)) ?_))
  go_ret
  exact ⟨rfl, B2.out.trans ((below_alloc w2 _).mono B2.out.size)⟩
set_option maxRecDepth 100000 in
set_option maxHeartbeats 2000000 in
theorem nilstate_calls (w : World) (id s : Nat) (hs : s < 256) : Calls Tryd.prog 27 #[.pointer none, .int .u32 (id : Int), .int .u8 (s : Int)] w fun e w' => e = .returned (.int .i64 6) ∧ Below w.heap.size w w' := by
  have hC := hid (nilget_calls w id)
  by_cases h3 : 3 < s
  · have h3' : (3 : Int) < (s : Int) := by omega
    clear h3
    go_enter Tryd.func27, Tryd.ntmps27
    go_wp2_with (first | (go_at_call 40; go_loud (refine hC.out.mono ?_; rintro e w2 ⟨rfl, hb2⟩; have B2 := hid hb2; clear hb2; simp only [getRes])) | (refine wpListQ_alloc (o := ⟨some 7, _, _, _, _, _⟩) 37 rfl rfl zjob 6 info_job ?_) | (refine wpListQ_store_new (o := ⟨none, _, 0, _, _, _⟩) rfl 37 (.tmp 7) (.tmp 19) rfl zjob (jobV jobZ).toArray rfl rfl size_job rfl (all_oneCell_toArray (jobV_one _)) ?_))
    go_ret
    exact ⟨rfl, B2.out.trans ((below_alloc w2 _).mono B2.out.size)⟩
  · have h3' : ¬ ((3 : Int) < (s : Int)) := by omega
    clear h3
    go_enter Tryd.func27, Tryd.ntmps27
    go_wp2_with (first | (go_at_call 40; go_loud (refine hC.out.mono ?_; rintro e w2 ⟨rfl, hb2⟩; have B2 := hid hb2; clear hb2; simp only [getRes])) | (refine wpListQ_alloc (o := ⟨some 7, _, _, _, _, _⟩) 37 rfl rfl zjob 6 info_job ?_) | (refine wpListQ_store_new (o := ⟨none, _, 0, _, _, _⟩) rfl 37 (.tmp 7) (.tmp 19) rfl zjob (jobV jobZ).toArray rfl rfl size_job rfl (all_oneCell_toArray (jobV_one _)) ?_))
    go_ret
    exact ⟨rfl, B2.out.trans ((below_alloc w2 _).mono B2.out.size)⟩
end Go.Proofs.YtombndhjoaaaiaaDoor
