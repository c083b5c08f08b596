/- The walks of layer 16: a job more, a job less. -/
import Derived.Test.YtombndhjoaaaiaaDoorJobF
namespace Go.Proofs.YtombndhjoaaaiaaDoor
open Go.RowKit Go.Quad _root_.Quad _root_.Quad.Ink

def actRes (r : Nat × Int) : Value := .tuple #[.int .u32 (r.1 : Int), .int .i64 r.2]

set_option maxRecDepth 100000 in
set_option maxHeartbeats 4000000 in
theorem cancel_calls (w : World) (B T b : Nat) (ov : Value) (t : TbD) (id : Nat) (h : IsTb w B T b ov t) (hI : id < 4294967296) :
    Calls Tryd.prog 39 #[.pointer (some ⟨T, 0, none⟩), .int .u32 (id : Int)] w (TbTo w B T b ov (cancelT t id).1 (actRes (cancelT t id).2)) := by
  have hC := hid (get_calls w B T b ov t id h hI)
  have H := hid h
  have hz := getT_zero h.ok (id := id)
  have hrg := getT_rng h.ok (id := id)
  have hids := h.ok.ids
  have hcs := getT_cases t id
  have hfin : cancelT t id = if (getT t id).2 ≠ 0 then (t, 0, (getT t id).2) else (endT t (getT t id).1 5, id, 0) := rfl
  obtain ⟨⟨j, ej⟩, hg⟩ : ∃ r, getT t id = r := ⟨_, rfl⟩
  rw [hg] at hC hz hrg hcs hfin
  dsimp only at hC hz hrg hcs hfin
  have HF := hid hfin
  clear h hg hfin
  go_enter Tryd.func39, Tryd.ntmps39
  go_upto_region 2 with (first | (go_at_call 40; go_loud (refine hC.out.mono ?_; rintro e w2 ⟨rfl, hb2⟩; have B2 := hid hb2; clear hb2; simp only [getRes])) | (refine wpListQ_alloc (o := ⟨some 6, _, _, _, _, _⟩) 37 rfl rfl zjob 6 info_job ?_) | (refine wpListQ_store_new (o := ⟨none, _, 0, _, _, _⟩) rfl 37 (.tmp 6) (.tmp 12) rfl zjob (jobV j).toArray rfl rfl size_job rfl (all_oneCell_toArray (jobV_one _)) ?_))
  obtain ⟨z, hz6⟩ : ∃ z, w2.heap.size = z := ⟨_, rfl⟩
  have b6 := below_alloc w2 (.cells (jobV j).toArray 37)
  have K6 := hid (show Blk (w2.alloc (.cells (jobV j).toArray 37)) z (jobV j) 37 from by rw [← hz6]; exact blk_alloc w2 (jobV j) 37)
  have B6 := hid (B2.out.trans (b6.mono B2.out.size))
  rw [hz6]
  generalize (w2.alloc (.cells (jobV j).toArray 37)) = w6 at K6 B6 ⊢
  clear b6 hz6 B2 hC
  rcases hcs with h0 | h6 | h10
  · subst h0
    have HZ := hid (hz rfl)
    have HRG := hid (hrg rfl)
    have HF2 := hid (show cancelT t id = (endT t j 5, id, 0) from by rw [HF.out, if_neg (by decide)])
    have hE := hid (jend_calls w6 B T b ov t j 5 (H.out.below B6.out) (hids j HZ.out.1) HRG.out (.inr rfl))
    clear hz hrg HF hids
    have k0 := K6.out.get 0 rfl
    have k1 := K6.out.get 1 rfl
    have k2 := K6.out.get 2 rfl
    have k3 := K6.out.get 3 rfl
    have k4 := K6.out.get 4 rfl
    have k5 := K6.out.get 5 rfl
    go_wp2_with (go_at_call 42; go_loud (refine hE.out.mono ?_; intro e w8 h8; have H8 := hid h8; obtain ⟨rfl, _⟩ := h8))
    go_ret2
    rw [HF2.out]
    exact TbTo.after H.out B6.out (H8.out.then (Below.refl _ _))
  · subst h6
    have HF2 := hid (show cancelT t id = (t, 0, 6) from by rw [HF.out, if_pos (by decide)])
    clear hz hrg hids HF
    go_wp2_with fail
    go_ret2
    rw [HF2.out]
    exact TbTo.same H.out B6.out
  · subst h10
    have HF2 := hid (show cancelT t id = (t, 0, 10) from by rw [HF.out, if_pos (by decide)])
    clear hz hrg hids HF
    go_wp2_with fail
    go_ret2
    rw [HF2.out]
    exact TbTo.same H.out B6.out

set_option maxRecDepth 100000 in
set_option maxHeartbeats 4000000 in
theorem submit_calls (w : World) (B T b : Nat) (ov : Value) (t : TbD) (q : ReqD) (h : IsTb w B T b ov t) (hq : q.Ok) :
    Calls Tryd.prog 37 #[.pointer (some ⟨T, 0, none⟩), .agg #[.int .u8 (q.client : Int), .int .u32 (q.seq : Int), .int .u8 (q.kind : Int), .int .u8 (q.tier : Int), .int .i64 q.k, .int .i64 q.w, .int .u32 (q.job : Int)]] w (TbTo w B T b ov (submitT t q).1 (actRes (submitT t q).2)) := by
  obtain ⟨z, hz⟩ : ∃ z, w.heap.size = z := ⟨_, rfl⟩
  have Zs := hid hz
  have B1 := hid (below_alloc w (.cells #[.int .u8 (q.client : Int), .int .u32 (q.seq : Int), .int .u8 (q.kind : Int), .int .u8 (q.tier : Int), .int .i64 q.k, .int .i64 q.w, .int .u32 (q.job : Int)] 34))
  have K1 := hid (show Blk (w.alloc (.cells #[.int .u8 (q.client : Int), .int .u32 (q.seq : Int), .int .u8 (q.kind : Int), .int .u8 (q.tier : Int), .int .i64 q.k, .int .i64 q.w, .int .u32 (q.job : Int)] 34)) z (reqV q) 34 from by rw [← hz]; exact blk_alloc w (reqV q) 34)
  have H := hid h
  have H1 := hid (h.below B1.out)
  have hok := submitT_ok h.ok q hq
  have HOK := hid hok
  have ht := hq.tier
  have hk := hq.k
  have hw := hq.w
  have ht' : (q.tier : Int) ≤ 255 := by omega
  clear h hok
  go_enter Tryd.func37, Tryd.ntmps37
  go_upto_region 1 with fail
  clear hz
  generalize (w.alloc (.cells #[.int .u8 (q.client : Int), .int .u32 (q.seq : Int), .int .u8 (q.kind : Int), .int .u8 (q.tier : Int), .int .i64 q.k, .int .i64 q.w, .int .u32 (q.job : Int)] 34)) = w1 at K1 B1 H1 ⊢
  have k3 := K1.out.get 3 rfl
  have k4 := K1.out.get 4 rfl
  have k5 := K1.out.get 5 rfl
  by_cases hbad : 3 < q.tier ∨ q.k < 1 ∨ q.w < 1 ∨ 10000 < q.w
  · have HF2 := hid (show submitT t q = (t, 0, 1) from by unfold submitT; rw [if_pos hbad])
    have key : ∀ C : Prop, C → C := fun _ h => h
    rcases (show (3 < q.tier) ∨ (¬ 3 < q.tier ∧ q.k < 1) ∨ (¬ 3 < q.tier ∧ ¬ q.k < 1 ∧ q.w < 1) ∨ (¬ 3 < q.tier ∧ ¬ q.k < 1 ∧ ¬ q.w < 1 ∧ 10000 < q.w) from by omega) with h1 | ⟨h1, h2⟩ | ⟨h1, h2, h3⟩ | ⟨h1, h2, h3, h4⟩
    · have g1 : (3 : Int) < (q.tier : Int) := by omega
      clear hbad
      go_wp2_with fail
      go_ret2
      rw [HF2.out]
      exact TbTo.same H.out B1.out
    · have g1 : ¬ ((3 : Int) < (q.tier : Int)) := by omega
      clear hbad
      go_wp2_with fail
      go_ret2
      rw [HF2.out]
      exact TbTo.same H.out B1.out
    · have g1 : ¬ ((3 : Int) < (q.tier : Int)) := by omega
      clear hbad
      go_wp2_with fail
      go_ret2
      rw [HF2.out]
      exact TbTo.same H.out B1.out
    · have g1 : ¬ ((3 : Int) < (q.tier : Int)) := by omega
      clear hbad
      go_wp2_with fail
      go_ret2
      rw [HF2.out]
      exact TbTo.same H.out B1.out
  have g1 : ¬ ((3 : Int) < (q.tier : Int)) := by omega
  have g2 : ¬ (q.k < 1) := by omega
  have g3 : ¬ (q.w < 1) := by omega
  have g4 : ¬ (10000 < q.w) := by omega
  have c0 := H1.out.own.get 0 rfl
  have hno := H1.out.ok.nodes
  go_upto_region 3 with fail
  go_quiet (fail)
  have B2 := hid (below_drewN B1.out nq)
  have K2 := hid (K1.out.below (below_drewN (Below.refl _ w1) nq))
  have H2 := hid (H1.out.below (below_drewN (Below.refl _ w1) nq))
  clear k3 k4 k5 c0
  generalize w1.drewN nq = w2 at B2 K2 H2 ⊢
  clear B1 K1 H1
  by_cases hwide : t.nodes < q.k
  · have HF2 := hid (show submitT t q = (t, 0, 9) from by unfold submitT; rw [if_neg hbad, if_pos hwide])
    rw [show decide (t.nodes < q.k) = true from decide_eq_true hwide]
    clear hbad
    go_wp2_with fail
    go_ret2
    rw [HF2.out]
    exact TbTo.same H.out B2.out
  rw [show decide (t.nodes < q.k) = false from decide_eq_false hwide]
  obtain ⟨D, hD, hM⟩ := H2.out.map
  have HD := hid hD
  have HM := hid hM
  have hsz := hid (show ((Maps.size D : Nat) : Int) = (t.active.length : Int) from by rw [hM.size])
  have c1 := H2.out.own.get 1 rfl
  have c2 := H2.out.own.get 2 rfl
  have f1 := H2.out.own.free 1
  have hsp := H2.out.ok.spent
  have hsp' : (t.spent : Int) ≤ 4294967295 := by omega
  have hfew := H2.out.ok.few.1
  have hfew' : (t.active.length : Int) ≤ 64 := by omega
  clear hD hM
  by_cases hfull : 64 ≤ t.active.length ∨ t.spent = 4294967295
  · have HF2 := hid (show submitT t q = (t, 0, 8) from by unfold submitT; rw [if_neg hbad, if_neg hwide, if_pos hfull])
    rcases (show 64 ≤ t.active.length ∨ (¬ 64 ≤ t.active.length ∧ t.spent = 4294967295) from by omega) with hf | ⟨hf, hf2⟩
    · have hf' : (64 : Int) ≤ (t.active.length : Int) := by omega
      clear hbad hfull
      go_wp2_with (at_len; go_must (refine wpList_len_own _ rfl _ 72 rfl 28 37 Tryd.underlying72 jobR b _ D rfl HD.out ?_; rw [hsz.out]))
      go_ret2
      rw [HF2.out]
      exact TbTo.same H.out B2.out
    · have hf' : ¬ ((64 : Int) ≤ (t.active.length : Int)) := by omega
      have hf2' : ((t.spent : Int) == 4294967295) = true := by simp; omega
      clear hbad hfull
      go_wp2_with (at_len; go_must (refine wpList_len_own _ rfl _ 72 rfl 28 37 Tryd.underlying72 jobR b _ D rfl HD.out ?_; rw [hsz.out]))
      go_ret2
      rw [HF2.out]
      exact TbTo.same H.out B2.out
  have hf' : ¬ ((64 : Int) ≤ (t.active.length : Int)) := by omega
  have hf2' : ((t.spent : Int) == 4294967295) = false := by simp; omega
  have hsp2 : (t.spent : Int) + 1 ≤ 4294967295 := by omega
  have HF2 := hid (show submitT t q = ({ t with spent := t.spent + 1, active := t.active ++ [⟨t.spent + 1, q.tier, q.k, q.w, 0, 0⟩] }, t.spent + 1, 0) from by unfold submitT; rw [if_neg hbad, if_neg hwide, if_neg hfull])
  clear hbad hfull
  go_upto_region 7 with (at_len; go_must (refine wpList_len_own _ rfl _ 72 rfl 28 37 Tryd.underlying72 jobR b _ D rfl HD.out ?_; rw [hsz.out]))
  go_upto_region 8 with fail
  obtain ⟨s1, hs1⟩ : ∃ s1, s1 = t.spent + 1 := ⟨_, rfl⟩
  have es1 : (t.spent : Int) + 1 = (s1 : Int) := by omega
  rw [es1]
  have hs1b : s1 < 4294967296 := by omega
  have T3 := hid (show Blk (w2.setCell ⟨T, 1, none⟩ (.int .u32 (s1 : Int))) T (tbV { t with spent := s1 } b ov) 75 from H2.out.own.set 1 (.int .u32 (s1 : Int)))
  have C3 := hid (chg_setCell w2 T 1 (.int .u32 (s1 : Int)))
  have hne := H2.out.ne
  have HNE := hid hne
  have MO3 := hid (owns_chg HD.out C3.out (by simp; exact hne.1.symm))
  have O3 := hid (H2.out.over.chg C3.out (by intro k hk hm; simp at hm; subst hm; exact hne.2.1 hk))
  have zl := K2.out.lt
  have zT : z ≠ T := by
    have hT := H.out.own.lt
    have := Zs.out
    omega
  have K3 := hid (K2.out.keep C3.out (by simp; exact zT))
  have B3 := hid B2.out
  clear c1 c2 f1 HD K2 hne zl
  generalize (w2.setCell ⟨T, 1, none⟩ (.int .u32 (s1 : Int))) = w3 at T3 C3 MO3 O3 K3 ⊢
  have c1 := T3.out.get 1 rfl
  have c2 := T3.out.get 2 rfl
  have k3 := K3.out.get 3 rfl
  have k4 := K3.out.get 4 rfl
  have k5 := K3.out.get 5 rfl
  dsimp only at c1 c2
  have HS1 := hid hs1
  clear hs1 es1
  go_still_tail 19, (by kernel_rfl)
  change wpList _ _ _ _ _ w3.drew
  clear c1 c2 k3 k4 k5
  have T4 := hid (T3.out.below (below_drew w3))
  have MO4 := hid (show w3.drew.ownsMap Tryd.prog 28 jobR b t.active.length D from MO3.out)
  have O4 := hid (O3.out.below (below_drew w3))
  have C4 := hid (C3.out.trans (Chg.of_below [T] (below_drew w3)))
  generalize w3.drew = w4 at T4 MO4 O4 C4 ⊢
  have hfresh : ∀ x ∈ t.active, x.id ≠ s1 := fun x hx e => by have := (H2.out.ok.ids x hx).2; have := HS1.out; omega
  have M5 := hid (HM.out.put (j := ⟨s1, q.tier, q.k, q.w, 0, 0⟩) hfresh)
  clear T3 MO3 O3 C3 K3 hfresh
  go_upto_region 9 with (at_mapUpdate; go_must (refine wpList_mapUpdate_in _ rfl _ _ _ 72 rfl 28 37 keyed32 Tryd.underlying72 jobR b _ D rfl MO4.out (by unfold maxLen; omega) (.int .u32 (s1 : Int)) (.agg (jobV ⟨s1, q.tier, q.k, q.w, 0, 0⟩).toArray) (idK s1) rfl rfl (keyOf32 hs1b) (jobDat ⟨s1, q.tier, q.k, q.w, 0, 0⟩) [] (jobR_mk _) ?_; intro w9 hown9 hturn9))
  have C9 := hid (show Chg [b] w4 w9 from by simpa using chg_grown hturn9.grown)
  have T9 := hid (T4.out.keep C9.out (by simp; exact HNE.out.1))
  have O9 := hid (O4.out.chg C9.out (by intro k hk hm; simp at hm; subst hm; exact HNE.out.2.2 hk))
  have MO9 := hid hown9
  have c1 := T9.out.get 1 rfl
  dsimp only at c1
  clear hown9 hturn9
  go_wp2_with fail
  go_ret2
  have HOK2 := HOK.out
  rw [HF2.out] at HOK2 ⊢
  have hs1 := HS1.out
  clear HS1
  subst hs1
  have hmap := owns_tight MO9.out
  rw [M5.out.size] at hmap
  refine TbTo.after H.out B3.out ⟨rfl, ov, ⟨T9.out, ⟨_, hmap, M5.out⟩, O9.out, H.out.ge, HOK2⟩, (C4.out.mono (by intro k hk; simp at hk; simp [tbS, hk])).trans (C9.out.mono (by intro k hk; simp at hk; simp [tbS, hk])), fun k hk => .inl (by simp [tbS, hk])⟩
end Go.Proofs.YtombndhjoaaaiaaDoor
