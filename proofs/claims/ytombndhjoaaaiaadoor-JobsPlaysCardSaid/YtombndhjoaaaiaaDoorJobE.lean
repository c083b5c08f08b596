/- The walks of layer 16: a job is Done; its credit; a new table. -/
import Derived.Test.YtombndhjoaaaiaaDoorJobD
namespace Go.Proofs.YtombndhjoaaaiaaDoor
open Go.RowKit Go.Quad _root_.Quad _root_.Quad.Ink

theorem getT_cases (t : TbD) (id : Nat) : (getT t id).2 = 0 ∨ (getT t id).2 = 6 ∨ (getT t id).2 = 10 := by
  unfold getT
  cases jobT t id with
  | none => exact .inr (.inl rfl)
  | some j =>
    simp only
    split
    · exact .inr (.inr rfl)
    · exact .inl rfl
theorem TbTo.after {w w1 w' : World} {B T b : Nat} {ov : Value} {t t' : TbD} {r : Value} {e : Ending} (_h : IsTb w B T b ov t) (hb : Below w.heap.size w w1) (ht : TbTo w1 B T b ov t' r e w') : TbTo w B T b ov t' r e w' := by
  obtain ⟨rfl, ov', h1, h2, h3⟩ := ht
  exact ⟨rfl, ov', h1, (Chg.of_below _ hb).trans h2, fun k hk => (h3 k hk).imp id fun hk => Nat.le_trans hb.size hk⟩
theorem TbTo.then {w w1 w' : World} {B T b : Nat} {ov : Value} {t : TbD} {r r' : Value} {e : Ending} (ht : TbTo w B T b ov t r e w1) (hb : Below w1.heap.size w1 w') : TbTo w B T b ov t r' (.returned r') w' := by
  obtain ⟨rfl, ov', h1, h2, h3⟩ := ht
  exact ⟨rfl, ov', h1.below hb, h2.trans (Chg.of_below _ hb), h3⟩

set_option maxRecDepth 100000 in
set_option maxHeartbeats 2000000 in
theorem finish_calls (w : World) (B T b : Nat) (ov : Value) (t : TbD) (id : Nat) (h : IsTb w B T b ov t) (hI : id < 4294967296) :
    Calls Tryd.prog 14 #[.pointer (some ⟨T, 0, none⟩), .int .u32 (id : Int)] w (TbTo w B T b ov (finishT t id).1 (.int .i64 (finishT t id).2)) := by
  have hC := hid (get_calls w B T b ov t id h hI)
  have H := hid h
  have hz := getT_zero h.ok (id := id)
  have hrg := getT_rng h.ok (id := id)
  have hids := h.ok.ids
  have hcs := getT_cases t id
  have hfin : finishT t id = if (getT t id).2 ≠ 0 then (t, (getT t id).2) else (endT t { (getT t id).1 with credit := (getT t id).1.w } 4, 0) := rfl
  obtain ⟨⟨j, ej⟩, hg⟩ : ∃ r, getT t id = r := ⟨_, rfl⟩
  rw [hg] at hC hz hrg hcs hfin
  dsimp only at hC hz hrg hcs hfin
  have HF := hid hfin
  clear h hg hfin
  go_enter Tryd.func14, Tryd.ntmps14
  go_upto_region 2 with (first | (go_at_call 40; go_loud (refine hC.out.mono ?_; rintro e w2 ⟨rfl, hb2⟩; have B2 := hid hb2; clear hb2; simp only [getRes])) | (refine wpListQ_alloc (o := ⟨some 5, _, _, _, _, _⟩) 37 rfl rfl zjob 6 info_job ?_) | (refine wpListQ_store_new (o := ⟨none, _, 0, _, _, _⟩) rfl 37 (.tmp 5) (.tmp 11) rfl zjob (jobV j).toArray rfl rfl size_job rfl (all_oneCell_toArray (jobV_one _)) ?_))
  obtain ⟨z, hz6⟩ : ∃ z, w2.heap.size = z := ⟨_, rfl⟩
  have b6 := below_alloc w2 (.cells (jobV j).toArray 37)
  have K6 := hid (show Blk (w2.alloc (.cells (jobV j).toArray 37)) z (jobV j) 37 from by rw [← hz6]; exact blk_alloc w2 (jobV j) 37)
  have B6 := hid (B2.out.trans (b6.mono B2.out.size))
  have Z6 := hid (show w.heap.size ≤ z from by rw [← hz6]; exact B2.out.size)
  rw [hz6]
  generalize (w2.alloc (.cells (jobV j).toArray 37)) = w6 at K6 B6 ⊢
  clear b6 hz6 B2 hC
  rcases hcs with h0 | h6 | h10
  · subst h0
    have HZ := hid (hz rfl)
    have HRG := hid (hrg rfl)
    have HF2 := hid (show finishT t id = (endT t { j with credit := j.w } 4, 0) from by rw [HF.out, if_neg (by decide)])
    have c3 := K6.out.get 3 rfl
    have f5 := K6.out.free 5
    have c5 := K6.out.get 5 rfl
    have K7 := hid (show Blk (w6.setCell ⟨z, 5, none⟩ (.int .i64 j.w)) z (jobV { j with credit := j.w }) 37 from K6.out.set 5 (.int .i64 j.w))
    have B7 := hid (blk_below_set B6.out (chg_setCell w6 z 5 (.int .i64 j.w)) Z6.out)
    clear hz hrg HF
    go_upto_region 4 with fail
    clear c3 f5 c5
    generalize (w6.setCell ⟨z, 5, none⟩ (.int .i64 j.w)) = w7 at K7 B7 ⊢
    have hE := hid (jend_calls w7 B T b ov t { j with credit := j.w } 4 (H.out.below B7.out) (by rw [show ({ j with credit := j.w } : JobD).id = j.id from rfl]; exact hids j HZ.out.1) (by have := HRG.out; dsimp only; omega) (.inl rfl))
    clear hids
    have k0 := K7.out.get 0 rfl
    have k1 := K7.out.get 1 rfl
    have k2 := K7.out.get 2 rfl
    have k3 := K7.out.get 3 rfl
    have k4 := K7.out.get 4 rfl
    have k5 := K7.out.get 5 rfl
    dsimp only at k0 k1 k2 k3 k4 k5
    go_wp2_with (go_at_call 42; go_loud (refine hE.out.mono ?_; intro e w8 h8; have H8 := hid h8; obtain ⟨rfl, _⟩ := h8))
    go_ret
    rw [HF2.out]
    exact TbTo.after H.out B7.out (H8.out.then (Below.refl _ _))
  · subst h6
    have HF2 := hid (show finishT t id = (t, 6) from by rw [HF.out, if_pos (by decide)])
    clear hz hrg hids HF
    go_wp2_with fail
    go_ret
    rw [HF2.out]
    exact TbTo.same H.out B6.out
  · subst h10
    have HF2 := hid (show finishT t id = (t, 10) from by rw [HF.out, if_pos (by decide)])
    clear hz hrg hids HF
    go_wp2_with fail
    go_ret
    rw [HF2.out]
    exact TbTo.same H.out B6.out

theorem tbV_setT (t : TbD) (j : JobD) (b : Nat) (ov : Value) : tbV (setT t j) b ov = tbV t b ov := rfl
set_option maxRecDepth 100000 in
set_option maxHeartbeats 2000000 in
theorem credit_calls (w : World) (B T b : Nat) (ov : Value) (t : TbD) (id : Nat) (n : Int) (h : IsTb w B T b ov t) (hI : id < 4294967296) (hn : -9223372036854775808 ≤ n ∧ n ≤ 9223372036854775807) :
    Calls Tryd.prog 12 #[.pointer (some ⟨T, 0, none⟩), .int .u32 (id : Int), .int .i64 n] w (TbTo w B T b ov (creditT t id n).1 (.int .i64 (creditT t id n).2)) := by
  have hC := hid (get_calls w B T b ov t id h hI)
  have H := hid h
  have hz := getT_zero h.ok (id := id)
  have hrg := getT_rng h.ok (id := id)
  have hcs := getT_cases t id
  have hok := creditT_ok h.ok id n
  have hst := h.ok.st
  have hfin : creditT t id n = if (getT t id).2 ≠ 0 then (t, (getT t id).2) else if n < 0 ∨ (getT t id).1.w < n then (t, 1) else if n < (getT t id).1.credit then (t, 12) else (setT t { (getT t id).1 with credit := n }, 0) := rfl
  obtain ⟨⟨j, ej⟩, hg⟩ : ∃ r, getT t id = r := ⟨_, rfl⟩
  rw [hg] at hC hz hrg hcs hfin
  dsimp only at hC hz hrg hcs hfin
  have HF := hid hfin
  have HOK := hid hok
  clear h hg hfin hok hst
  go_enter Tryd.func12, Tryd.ntmps12
  go_upto_region 2 with (first | (go_at_call 40; go_loud (refine hC.out.mono ?_; rintro e w2 ⟨rfl, hb2⟩; have B2 := hid hb2; clear hb2; simp only [getRes])) | (refine wpListQ_alloc (o := ⟨some 7, _, _, _, _, _⟩) 37 rfl rfl zjob 6 info_job ?_) | (refine wpListQ_store_new (o := ⟨none, _, 0, _, _, _⟩) rfl 37 (.tmp 7) (.tmp 13) rfl zjob (jobV j).toArray rfl rfl size_job rfl (all_oneCell_toArray (jobV_one _)) ?_))
  obtain ⟨z, hz6⟩ : ∃ z, w2.heap.size = z := ⟨_, rfl⟩
  have b6 := below_alloc w2 (.cells (jobV j).toArray 37)
  have K6 := hid (show Blk (w2.alloc (.cells (jobV j).toArray 37)) z (jobV j) 37 from by rw [← hz6]; exact blk_alloc w2 (jobV j) 37)
  have B6 := hid (B2.out.trans (b6.mono B2.out.size))
  have Z6 := hid (show w.heap.size ≤ z from by rw [← hz6]; exact B2.out.size)
  rw [hz6]
  generalize (w2.alloc (.cells (jobV j).toArray 37)) = w6 at K6 B6 ⊢
  clear b6 hz6 B2 hC
  rcases hcs with h0 | h6 | h10
  · subst h0
    have HZ := hid (hz rfl)
    have HRG := hid (hrg rfl)
    have hwj : 1 ≤ j.w ∧ j.w ≤ 10000 ∧ 0 ≤ j.credit ∧ j.credit ≤ 10000 := by have := HRG.out; omega
    have c3 := K6.out.get 3 rfl
    have c5 := K6.out.get 5 rfl
    have f5 := K6.out.free 5
    clear hz hrg
    by_cases hbad : n < 0 ∨ j.w < n
    · have HF2 := hid (show creditT t id n = (t, 1) from by rw [HF.out, if_neg (by decide), if_pos hbad])
      clear HF
      rcases hbad with hb | hb
      · go_wp2_with fail
        go_ret
        rw [HF2.out]
        exact TbTo.same H.out B6.out
      · have hb' : ¬ (n < 0) := by omega
        go_wp2_with fail
        go_ret
        rw [HF2.out]
        exact TbTo.same H.out B6.out
    · have hb1 : ¬ (n < 0) := by omega
      have hb2 : ¬ (j.w < n) := by omega
      by_cases hst : n < j.credit
      · have HF2 := hid (show creditT t id n = (t, 12) from by rw [HF.out, if_neg (by decide), if_neg hbad, if_pos hst])
        clear HF hbad
        go_wp2_with fail
        go_ret
        rw [HF2.out]
        exact TbTo.same H.out B6.out
      · have HF2 := hid (show creditT t id n = (setT t { j with credit := n }, 0) from by rw [HF.out, if_neg (by decide), if_neg hbad, if_neg hst])
        clear HF hbad
        have K7 := hid (show Blk (w6.setCell ⟨z, 5, none⟩ (.int .i64 n)) z (jobV { j with credit := n }) 37 from K6.out.set 5 (.int .i64 n))
        have B7 := hid (blk_below_set B6.out (chg_setCell w6 z 5 (.int .i64 n)) Z6.out)
        go_upto_region 9 with fail
        clear c3 c5 f5
        generalize (w6.setCell ⟨z, 5, none⟩ (.int .i64 n)) = w7 at K7 B7 ⊢
        have H7 := hid (H.out.below B7.out)
        have c2 := H7.out.own.get 2 rfl
        have k0 := K7.out.get 0 rfl
        have k1 := K7.out.get 1 rfl
        have k2 := K7.out.get 2 rfl
        have k3 := K7.out.get 3 rfl
        have k4 := K7.out.get 4 rfl
        have k5 := K7.out.get 5 rfl
        dsimp only at k0 k1 k2 k3 k4 k5
        go_still_tail 6, (by kernel_rfl)
        change wpList _ _ _ _ _ w7.drew
        clear c2 k0 k1 k2 k3 k4 k5
        have B8 := hid (B7.out.trans ((below_drew w7).mono B7.out.size))
        have H8 := hid (H7.out.below (below_drew w7))
        generalize w7.drew = w8 at B8 H8 ⊢
        obtain ⟨D, hD, hM⟩ := H8.out.map
        have HD := hid hD
        have hlen := H8.out.ok.few.1
        have M9 := hid (hM.set (j := { j with credit := n }) ⟨j, HZ.out.1, rfl⟩)
        have e0 : idK ({ j with credit := n } : JobD).id = idK id := congrArg idK HZ.out.2.1
        have M9' := M9.out
        rw [e0] at M9'
        replace M9 := hid M9'
        clear hD hM e0 M9'
        go_wp2_with (at_mapUpdate; go_must (refine wpList_mapUpdate_in _ rfl _ _ _ 72 rfl 28 37 keyed32 Tryd.underlying72 jobR b _ D rfl HD.out (by unfold maxLen; omega) (.int .u32 (id : Int)) (.agg (jobV { j with credit := n }).toArray) (idK id) rfl rfl (keyOf32 hI) (jobDat { j with credit := n }) [] (jobR_mk _) ?_; intro w9 hown9 hturn9))
        go_ret
        rw [HF2.out]
        have C9 : Chg [b] w8 w9 := by simpa using chg_grown hturn9.grown
        have hne := H8.out.ne
        have HOK2 := HOK.out
        rw [HF2.out] at HOK2
        refine TbTo.after H.out B8.out ⟨rfl, ov, ⟨H8.out.own.keep C9 (by simp; exact hne.1), ⟨_, ?_, M9.out⟩, H8.out.over.chg C9 (by intro k hk hm; simp at hm; subst hm; exact hne.2.2 hk), H8.out.ge, HOK2⟩, C9.mono (by intro k hk; simp at hk; simp [tbS, hk]), fun k hk => .inl (by simp [tbS, hk])⟩
        have := owns_tight hown9
        rw [M9.out.size] at this
        exact this
  · subst h6
    have HF2 := hid (show creditT t id n = (t, 6) from by rw [HF.out, if_pos (by decide)])
    clear hz hrg HF
    go_wp2_with fail
    go_ret
    rw [HF2.out]
    exact TbTo.same H.out B6.out
  · subst h10
    have HF2 := hid (show creditT t id n = (t, 10) from by rw [HF.out, if_pos (by decide)])
    clear hz hrg HF
    go_wp2_with fail
    go_ret
    rw [HF2.out]
    exact TbTo.same H.out B6.out


def NewTo (w : World) (n : Int) (e : Ending) (w' : World) : Prop :=
  if 1 ≤ n ∧ n ≤ 16 then ∃ T b, e = .returned (.tuple #[.pointer (some ⟨T, 0, none⟩), .int .i64 0]) ∧ IsTb w' w.heap.size T b (.slice none 0 0) (newT n) ∧ Below w.heap.size w w'
  else e = .returned (.tuple #[.pointer none, .int .i64 1]) ∧ w = w'
set_option maxRecDepth 100000 in
set_option maxHeartbeats 2000000 in
theorem jnew_calls (w : World) (n : Int) (hn : -9223372036854775808 ≤ n ∧ n ≤ 9223372036854775807) : Calls Tryd.prog 10 #[.int .i64 n] w (NewTo w n) := by
  by_cases h1 : n < 1
  · rw [show NewTo w n = fun e w' => e = .returned (.tuple #[.pointer none, .int .i64 1]) ∧ w = w' from by funext e w'; unfold NewTo; rw [if_neg (by omega)]]
    go_enter Tryd.func10, Tryd.ntmps10
    go_wp2_with fail
    go_ret2
    exact ⟨rfl, rfl⟩
  by_cases h2 : 16 < n
  · rw [show NewTo w n = fun e w' => e = .returned (.tuple #[.pointer none, .int .i64 1]) ∧ w = w' from by funext e w'; unfold NewTo; rw [if_neg (by omega)]]
    go_enter Tryd.func10, Tryd.ntmps10
    go_wp2_with fail
    go_ret2
    exact ⟨rfl, rfl⟩
  rw [show NewTo w n = fun e w' => ∃ T b, e = .returned (.tuple #[.pointer (some ⟨T, 0, none⟩), .int .i64 0]) ∧ IsTb w' w.heap.size T b (.slice none 0 0) (newT n) ∧ Below w.heap.size w w' from by funext e w'; unfold NewTo; rw [if_pos (by omega)]]
  have hmm := @run_makeMap Tryd.prog
  go_enter Tryd.func10, Tryd.ntmps10
  go_wp2_with fail
  go_ret2
  have b1 := below_alloc w (.map #[] 0)
  have b2 := below_alloc (w.alloc (.map #[] 0)) (.cells (tbV (newT n) w.heap.size (.slice none 0 0)).toArray 75)
  have K := blk_alloc (w.alloc (.map #[] 0)) (tbV (newT n) w.heap.size (.slice none 0 0)) 75
  have M : (w.alloc (.map #[] 0)).ownsMap Tryd.prog 28 jobR w.heap.size 0 (.map []) := World.ownsMap_made w Tryd.prog 28 jobR
  have hsz : (w.alloc (.map #[] 0)).heap.size = w.heap.size + 1 := by simp
  refine ⟨w.heap.size + 1, rfl, ⟨w.heap.size, (⟨?_, ⟨.map [], owns_block M (b2.block _ M.lt), MapIs.nil⟩, JR.nil _ _, ⟨by omega, Nat.le_refl _⟩, newT_ok (by omega)⟩ : IsTb ((w.alloc (.map #[] 0)).alloc (.cells (tbV (newT n) w.heap.size (.slice none 0 0)).toArray 75)) w.heap.size (w.heap.size + 1) w.heap.size (.slice none 0 0) (newT n))⟩, b1.trans (b2.mono b1.size)⟩
  rw [← hsz]
  exact K

end Go.Proofs.YtombndhjoaaaiaaDoor
