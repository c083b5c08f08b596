/- ScrollEpochs: each opening has the epoch that is one more, and tells what the one ahead told, and what it added. -/
import Derived.Test.YtoapibbbooongaaDoorScrX
namespace Go.Proofs.YtoapibbbooongaaDoor
open Go.RowKit Go.Quad _root_.Quad _root_.Quad.Slab _root_.Quad.Ink

structure EpSt (i : Nat) (s : Sl) (r : RootD) (bs : List Bat) (all : List Bytes) : Prop where
  dk : Dk s 50 r bs
  ep : r.epoch = i
  turn : r.turn ≤ i + 1
  way : s.way = []
  len : s.done.length = 102
  steps : s.steps ≤ 60 * (i + 1)
  first : ((bs.map Prod.snd).headD []).headD [] = [9]
  recs : ((bs.map Prod.snd).drop 1).flatten = all
  few : all.length ≤ 6 * i
def EpRel (w1 : World) (g m : Nat) (allv iv : Value) (wr : World) : Prop :=
  ∃ (i : Nat) (s : Sl) (r : RootD) (bs : List Bat) (all : List Bytes) (ts : List TS), iv = .int .i64 (i : Int) ∧ i ≤ m ∧ i ≤ 12 ∧ ts.map TS.p = all ∧ Texts w1 wr ts allv ∧ LSl w1 (TsX ts allv) g s wr ∧ EpSt i s r bs all
theorem ep_start : ∃ s r bs, formatS (newL 102) 50 [9] = (s, 0) ∧ EpSt 0 s r bs [] := by
  have p0 : partsL [[9]] = 1 := partsL_one (Nat.le_trans (joinL_bound (N := 1) (by omega) _ (by simp)) (by simp))
  obtain ⟨_, s0, _, _, f0, d0, w0, l0, t0⟩ := dk_format (n := 102) (size := 50) (p := [9]) (by omega) (by omega) (by omega) (by simp) (by omega)
  exact ⟨s0, _, _, f0, ⟨d0, rfl, Nat.le_refl _, w0, l0, by omega, rfl, rfl, by simp⟩⟩
/-- behind an opening: the batch is taken, or it isn't -/
theorem ep_step {i : Nat} {s : Sl} {r : RootD} {bs : List Bat} {all : List Bytes} (h : EpSt i s r bs all) (hi : i < 12) (l : List Bytes) :
    ∃ s1, openS s 50 = (s1, some (scD s1 50 (nextR r) bs), 0) ∧ (s1.steps + 5000 < 1000000 ∧ s1.way = [] ∧ s1.done.length = 102) ∧
      ((∃ s2 bs2, addS (scD s1 50 (nextR r) bs) (fewL l) = (scD s2 50 (nextR r) bs2, 0) ∧ EpSt (i + 1) s2 (nextR r) bs2 (all ++ fewL l)) ∨
       (∃ e, (e = 1 ∨ e = 8) ∧ addS (scD s1 50 (nextR r) bs) (fewL l) = (scD s1 50 (nextR r) bs, e) ∧ EpSt (i + 1) s1 (nextR r) bs all)) := by
  obtain ⟨s1, o1, d1, w1, l1, t1⟩ := h.dk.scOpen (by have := h.ep; omega) (by have := h.turn; omega)
  have hs := h.steps
  have hl0 := h.len
  have hp := few_parts l
  have hep : (nextR r).epoch = i + 1 := by show r.epoch + 1 = _; rw [h.ep]
  have htn : (nextR r).turn ≤ i + 1 + 1 := by show r.turn + 1 ≤ _; have := h.turn; omega
  have stay : EpSt (i + 1) s1 (nextR r) bs all := ⟨d1, hep, htn, w1, l1.trans h.len, by omega, h.first, h.recs, by have := h.few; omega⟩
  refine ⟨s1, o1, ⟨by omega, w1, l1.trans h.len⟩, ?_⟩
  by_cases h0 : (fewL l).length = 0
  · exact .inr ⟨1, .inl rfl, d1.scNone h0, stay⟩
  by_cases hf : lenB bs + partsL (fewL l) ≤ 50
  · obtain ⟨s2, a2, d2, w2, l2, t2⟩ := d1.scAdd h0 (fun t ht => by have := fewL_small t ht; omega) hf
    refine .inl ⟨s2, _, a2, ⟨d2, hep, htn, w2, by omega, by omega, ?_, ?_, ?_⟩⟩
    · obtain ⟨e, p, bs', e1⟩ := h.dk.first
      have hf := h.first
      rw [e1] at hf ⊢
      exact hf
    · obtain ⟨e, p, bs', e1⟩ := h.dk.first
      have ha := h.recs
      rw [e1] at ha ⊢
      simp only [List.map_cons, List.drop_succ_cons, List.drop_zero] at ha
      simp [ha]
    · have := fewL_len l; have := h.few; rw [List.length_append]; omega
  · have := h.dk.fit
    exact .inr ⟨8, .inr rfl, d1.scFull h0 (by omega), stay⟩
def EpTo (w : World) (e : Ending) (w' : World) : Prop := e = .returned (.bool true) ∧ Below w.heap.size w w'
set_option maxRecDepth 100000 in
set_option maxHeartbeats 20000000 in
theorem scrollEpochs_walk (v0 : Value) (w : World) (h0 : RV Tryd.prog w 75 v0) (hq : Laid w) :
    Calls Tryd.prog 8 #[v0] w (EpTo w) := by
  obtain ⟨ad, cp, L, rfl, hok, hcs, hlc⟩ := lists_open h0
  have HQ := hid hq
  have HOK := hid hok
  have HCS := hid hcs
  have hm : (L.length : Int) ≤ 9223372036854775807 := by have := hcs.max; unfold maxLen at this; omega
  obtain ⟨s0, r0, b0, hf0, he0⟩ := ep_start
  have HF0 := hid hf0
  have HE0 := hid he0
  clear h0 hq hok hcs hf0 he0 hlc
  go_enter Tryd.func8, Tryd.ntmps8
  go_upto_region 3 with (go_at_call 28; go_must (refine (sawake_calls w HQ.out).mono ?_; rintro e w1 ⟨rfl, hb1⟩; have B1 := hid hb1; clear hb1; dsimp only))
  have L1 := hid (HQ.out.below B1.out HQ.out.1)
  go_upto_region 4 with (go_at_call 12; go_must (refine (sa_new w1 102 (by decide)).mono ?_; rintro e w2 ⟨g, rfl, h1⟩; have S1 := hid (LSl.of h1); clear h1; dsimp only))
  have CFm := hid (lsl_format w1 (w2.alloc (.cells #[.int .u8 9] 5)) (fun _ => False) g (newL 102) 50 (some ⟨w2.heap.size, 0, none⟩) 1 1 [9] (S1.out.below (below_alloc w2 _)) (by decide) (by simp [newL]) (bs_lit (w := w2) (p := [9]) rfl (by decide)) rfl (fun x hx => by cases hx; simp) (by omega) L1.out (by show 0 + 6000 < 1000000; omega) (by show 0 + 6000 < 1000000; omega))
  rw [HF0.out] at CFm
  dsimp only at CFm
  go_upto_region 5 with (go_at_call 38; go_must (refine CFm.out.mono ?_; rintro e w3 ⟨rfl, h2, _⟩; have S2 := hid h2; clear h2; dsimp only))
  have R0 := hid (show EpRel w1 g L.length (.slice none 0 0) (.int .i64 0) w3 from ⟨0, s0, r0, b0, [], [], rfl, Nat.zero_le _, by omega, rfl, ⟨RO.nil _ _ _ _ _, by simp⟩, S2.out.more (Below.refl _ _) (fun x hx => by rcases hx with h | ⟨t, ht, _⟩; simp [Value.ownBlock] at h; cases ht), HE0.out⟩)
  clear CFm S1 S2
  go_wp2_with fail
  go_loopw [5, 6, 7, 8, 9, 23] (fun av _ _ _ _ iv wr => EpRel w1 g L.length av iv wr) (fun _ _ _ _ _ iv _ => L.length - (intOf iv).toNat)
  case atStart => exact R0.out
  case round =>
    clear R0
    obtain ⟨i, s, r, bs, all, ts, rfl, hil, hi12, hts, htx, hsl, hst⟩ := hrel
    have HTS := hid hts
    have TX := hid htx
    have SL := hid hsl
    have DK := hid hst
    obtain ⟨av, an, ac, rfl, _, _, _⟩ := htx.rb.cs
    have bwr := hid (B1.out.trans (hsl.1.mono B1.out.size))
    clear hts htx hsl hst
    by_cases hlt : i < L.length
    · have hlt' : (i : Int) < (L.length : Int) := by omega
      obtain ⟨b, off, rfl, hcell⟩ := cs_row bbV_length HCS.out hlt (by decide)
      obtain ⟨la, lc, hle, hbl⟩ := HOK.out L[i] (List.getElem_mem hlt)
      have d0 := cell_later bwr.out (hcell 0 _ rfl)
      rw [Nat.add_zero, Nat.mul_one] at d0
      obtain ⟨⟨lv, l⟩, hlv⟩ : ∃ x, L[i] = x := ⟨_, rfl⟩
      rw [hlv] at d0 hle hbl
      dsimp only at hle d0 hbl
      subst hle
      have BLL := hid hbl
      clear hcell hlv hbl
      by_cases h12 : i = 12
      · have h12' : (12 : Int) ≤ (i : Int) := by omega
        clear h12
        obtain ⟨s1, ho1, hd1, hw1, hl1, ht1⟩ := DK.out.dk.scOpen (by have := DK.out.ep; omega) (by have := DK.out.turn; omega)
        have CO := hid (lsl_open w1 wr _ g s 50 SL.out (by decide) (by have := DK.out.len; omega) L1.out (by have := DK.out.steps; omega) (by rw [DK.out.way]; decide) s1 _ ho1)
        have HRC := hid (show (scD s1 50 (nextR r) bs).recs = ts.map TS.p from DK.out.recs.trans HTS.out.symm)
        have HLN := hid (show ts.length ≤ 1000000 from by have h := congrArg List.length HTS.out; rw [List.length_map] at h; have := DK.out.few; omega)
        clear ho1 hd1 hw1 hl1 ht1
        go_upto_region 18 with (go_at_call 29; go_must (refine CO.out.mono ?_; rintro e w3 ⟨q, rfl, h3, hk3⟩; have S3 := hid h3; have TX3 := hid (hk3.texts TX.out (fun _ h => h)); clear h3 hk3; dsimp only))
        have CR := hid (lsc_recs w1 w3 _ g q _ S3.out)
        rw [HRC.out] at CR
        go_wp2_with (first
          | (go_at_call 36; go_must (refine CR.out.mono ?_; rintro e w4 ⟨ts4, bv4, rfl, hm4, htx4, hb4⟩; obtain ⟨a4, n4, c4, rfl, _, _, _⟩ := htx4.rb.cs; have M4 := hid hm4; have TX4 := hid htx4; have B4 := hid hb4; have CSM := hid (show Calls Tryd.prog 35 #[.slice a4 n4 c4, .slice av an ac] w4 (fun e w' => e = .returned (.bool true) ∧ Below w4.heap.size w4 w') from (by have h1 := htx4.bl; rw [hm4] at h1; refine (same7_calls w4 _ _ a4 n4 c4 _ av an ac _ h1 (TX3.out.blx.below hb4) (by rw [List.length_map]; exact HLN.out) (by rw [List.length_map]; exact HLN.out)).mono fun e w' h => ⟨by rw [h.1]; simp, h.2⟩)); clear hm4 htx4 hb4; dsimp only))
          | (go_at_call 35; go_must (refine CSM.out.mono ?_; rintro e w5 ⟨rfl, hb5⟩; have B5 := hid hb5; clear hb5; dsimp only)))
        go_ret
        have h3 := B1.out.trans (S3.out.1.mono B1.out.size)
        have h4 := h3.trans (B4.out.mono h3.size)
        exact ⟨rfl, h4.trans (B5.out.mono h4.size)⟩
      have h12' : ¬ ((12 : Int) ≤ (i : Int)) := by omega
      have hi' : i < 12 := by omega
      obtain ⟨s1, ho1, hs1, hadd⟩ := ep_step DK.out hi' l
      have HS1 := hid hs1
      have HADD := hid hadd
      have CO := hid (lsl_open w1 wr _ g s 50 SL.out (by decide) (by have := DK.out.len; omega) L1.out (by have := DK.out.steps; omega) (by rw [DK.out.way]; decide) s1 _ ho1)
      have HRC := hid (show (scD s1 50 (nextR r) bs).recs = ts.map TS.p from DK.out.recs.trans HTS.out.symm)
      have HLN := hid (show ts.length ≤ 72 from by have h := congrArg List.length HTS.out; rw [List.length_map] at h; have := DK.out.few; omega)
      clear ho1 hs1 hadd
      go_upto_region 11 with (go_at_call 29; go_must (refine CO.out.mono ?_; rintro e w3 ⟨q, rfl, h3, hk3⟩; have S3 := hid h3; have TX3 := hid (hk3.texts TX.out (fun _ h => h)); clear h3 hk3; dsimp only))
      have CR := hid (lsc_recs w1 w3 _ g q _ S3.out)
      rw [HRC.out] at CR
      have CE := hid (lsc_epoch w1 w3 _ g q _ S3.out)
      rw [show (((scD s1 50 (nextR r) bs).root.epoch : Nat) : Int) = (i : Int) + 1 from by show ((r.epoch + 1 : Nat) : Int) = _; rw [DK.out.ep]; rfl] at CE
      go_upto_region 13 with (first
        | (go_at_call 32; go_must (refine CE.out.mono ?_; rintro e w9 ⟨rfl, rfl⟩; dsimp only))
        | (go_at_call 36; go_must (refine CR.out.mono ?_; rintro e w4 ⟨ts4, bv4, rfl, hm4, htx4, hb4⟩; obtain ⟨a4, n4, c4, rfl, _, _, _⟩ := htx4.rb.cs; have M4 := hid hm4; have TX4 := hid htx4; have B4 := hid hb4; have CSM := hid (show Calls Tryd.prog 35 #[.slice a4 n4 c4, .slice av an ac] w4 (fun e w' => e = .returned (.bool true) ∧ Below w4.heap.size w4 w') from (by have h1 := htx4.bl; rw [hm4] at h1; refine (same7_calls w4 _ _ a4 n4 c4 _ av an ac _ h1 (TX3.out.blx.below hb4) (by rw [List.length_map]; have := HLN.out; omega) (by rw [List.length_map]; have := HLN.out; omega)).mono fun e w' h => ⟨by rw [h.1]; simp, h.2⟩)); clear hm4 htx4 hb4; dsimp only))
        | (go_at_call 35; go_must (refine CSM.out.mono ?_; rintro e w5 ⟨rfl, hb5⟩; have B5 := hid hb5; have B35 := hid (B4.out.trans (hb5.mono B4.out.size)); have CSN := hid (lsc_snap w1 w5 _ g q _ (S3.out.below B35.out)); rw [show (scD s1 50 (nextR r) bs).snap = [9] from DK.out.first] at CSN; clear hb5; dsimp only))
        | (go_at_call 34; go_must (refine CSN.out.mono ?_; rintro e w6 ⟨v6, rfl, ho6, hb6⟩; obtain ⟨a6, c6, rfl, hbs6, _⟩ := ho6.bs; have B6 := hid hb6; have CS1 := hid (show Calls Tryd.prog 33 #[.slice a6 1 c6, .slice (some ⟨w6.heap.size, 0, none⟩) 1 1] (w6.alloc (.cells #[.int .u8 9] 5)) (fun e w' => e = .returned (.bool true) ∧ (w6.alloc (.cells #[.int .u8 9] 5)) = w') from (by have h := same_calls a6 (some ⟨w6.heap.size, 0, none⟩) c6 1 [9] [9] (w6.alloc (.cells #[.int .u8 9] 5)) (hbs6.below (below_alloc w6 _)) (bs_lit (w := w6) (p := [9]) rfl (by decide)); exact h)); clear ho6 hbs6 hb6; dsimp only))
        | (go_at_call 33; go_must (refine CS1.out.mono ?_; rintro e w7 ⟨rfl, rfl⟩; dsimp only)))
      have B37 := hid (show Below w3.heap.size w3 (w6.alloc (.cells #[.int .u8 9] 5)) from (B35.out.trans (B6.out.mono B35.out.size)).trans ((below_alloc w6 _).mono (Nat.le_trans B35.out.size B6.out.size)))
      generalize (w6.alloc (.cells #[.int .u8 9] 5)) = w7 at B37 ⊢
      have S7 := hid (S3.out.below B37.out)
      have TX7 := hid (TX3.out.below B37.out)
      have BW7 := hid (B1.out.trans (S7.out.1.mono B1.out.size))
      have CF7 := hid (few_calls w7 AnyB la l.length lc l (BLL.out.below BW7.out) (bl_max BLL.out))
      go_upto_region 14 with (go_at_call 39; go_must (refine CF7.out.mono ?_; rintro e w8 ⟨ts5, bv5, rfl, hm5, htx5, hb5⟩; obtain ⟨a5, n5, c5, rfl, hn5, hc5, hcs5⟩ := htx5.rb.cs; have M5 := hid hm5; have TX5 := hid htx5; have B8 := hid hb5; have N5 := hid hn5; have C5 := hid hc5; have CS5 := hid hcs5; clear hm5 htx5 hb5 hn5 hc5 hcs5; dsimp only))
      have S8 := hid (S7.out.more B8.out (X' := fun k => TsX ts (.slice av an ac) k ∨ TsX ts5 (.slice a5 n5 c5) k) (fun k hk => hk.imp id fun h => TX5.out.lt k h))
      have TX8 := hid (TX7.out.below B8.out)
      have BL8 := hid (show BL w8 (fun k => TsX ts (.slice av an ac) k ∨ TsX ts5 (.slice a5 n5 c5) k) (.slice a5 n5 c5) (fewL l) from by
        have h := TX5.out.blx.wider (Q' := fun k => TsX ts (.slice av an ac) k ∨ TsX ts5 (.slice a5 n5 c5) k) (fun k h => .inr h)
        rw [M5.out] at h
        exact h)
      have CA := hid (lsc_add w1 w8 _ g q _ a5 n5 c5 (fewL l) S8.out BL8.out (few_ok l) (by rw [HRC.out, List.length_map]; have := HLN.out; have := fewL_len l; omega) L1.out HS1.out.1 (by show s1.way.length + _ < _; rw [HS1.out.2.1]; decide))
      have TLT := hid (show ∀ k, TsX ts (.slice av an ac) k → k < w7.heap.size from fun k hk => (TX7.out.lt k hk).2)
      have W17 := hid (S7.out.1.size)
      rcases HADD.out with ⟨s2, bs2, ha2, hst2⟩ | ⟨er, her, ha2, hst2⟩
      · rw [ha2] at CA
        dsimp only at CA
        have ST2 := hid hst2
        clear ha2 hst2 HADD
        go_upto_region 15 with (go_at_call 40; go_must (refine CA.out.mono ?_; rintro e w9 ⟨rfl, h9, hk9⟩; have S9 := hid h9; have TX9 := hid (hk9.texts TX8.out (fun k h => .inl h)); have TY9 := hid (hk9.texts TX5.out (fun k h => .inr h)); clear h9 hk9; dsimp only))
        go_wp2_with (at_builtin; go_must (refine wpList_append_ro tsV_length tsV_one (by decide) (.tmp 65) (.tmp 66) _ rfl rfl w1.heap.size 33 _ 24 info_slb rfl under_slbs _ ts TX9.out.rb rfl (l' := ts5) N5.out (by obtain ⟨a6, n6, c6, e6, h6, _, hcs6⟩ := TY9.out.rb.cs; cases e6; exact hcs6) C5.out rfl (by have h1 := HLN.out; have h2 := congrArg List.length M5.out; rw [List.length_map] at h2; have := fewL_len l; omega) S9.out.1.size ?_; intro v10 w10 ho10 hb10 hg10 hv10; obtain ⟨a10, n10, c10, rfl, _, _, _⟩ := ho10.cs; have O10 := hid ho10; have G10 := hid hg10; have V10 := hid hv10; clear ho10 hb10 hg10 hv10))
        have hcat := TX9.out.cat (fun k hk => TLT.out k hk) TY9.out W17.out O10.out G10.out V10.out
        have hgr := S9.out.sl.grow (chg_grown G10.out) (X' := TsX (ts ++ ts5) (.slice a10 n10 c10)) (fun k hk => .inl (.inl (by simpa using hk))) (fun k hk => by
          rcases TsX.cat (bv := .slice av an ac) V10.out hk with h | ⟨t, ht, x, hx, rfl⟩ | h
          · exact .inl (.inl h)
          · exact .inl (.inr (.inr ⟨t, ht, x, hx, rfl⟩))
          · rcases hcat.lt k hk with ⟨_, h2⟩
            exact .inr ⟨by omega, h2⟩)
        have R : EpRel w1 g L.length (.slice a10 n10 c10) (.int .i64 ((i : Int) + 1)) w10 := ⟨i + 1, s2, _, bs2, _, ts ++ ts5, rfl, hlt, by omega, by rw [List.map_append, M5.out, HTS.out], hcat, hgr, ST2.out⟩
        have HR := hid R
        clear R hcat hgr
        refine ⟨?_, by simp only [intOf]; omega⟩
        first | exact HR.out | ((repeat apply Exists.intro); refine ⟨HR.out, ?_⟩; and_intros <;> rfl)
      · rw [ha2] at CA
        dsimp only at CA
        have ST2 := hid hst2
        have her' : ((er : Int) == 0) = false := by rw [beq_eq_false_iff_ne]; rcases her with h | h <;> omega
        clear ha2 hst2 HADD her
        go_wp2_with (go_at_call 40; go_must (refine CA.out.mono ?_; rintro e w9 ⟨rfl, h9, hk9⟩; have S9 := hid h9; have TX9 := hid (hk9.texts TX8.out (fun k h => .inl h)); clear h9 hk9; dsimp only))
        have R : EpRel w1 g L.length (.slice av an ac) (.int .i64 ((i : Int) + 1)) w9 := ⟨i + 1, s1, _, bs, all, ts, rfl, hlt, by omega, HTS.out, TX9.out, S9.out.sl.more (Below.refl _ _) (fun k hk => .inl (.inl hk)), ST2.out⟩
        have HR := hid R
        clear R
        refine ⟨?_, by simp only [intOf]; omega⟩
        first | exact HR.out | ((repeat apply Exists.intro); refine ⟨HR.out, ?_⟩; and_intros <;> rfl)
    · have hlt' : ¬ ((i : Int) < (L.length : Int)) := by omega
      obtain ⟨s1, ho1, hd1, hw1, hl1, ht1⟩ := DK.out.dk.scOpen (by have := DK.out.ep; omega) (by have := DK.out.turn; omega)
      have CO := hid (lsl_open w1 wr _ g s 50 SL.out (by decide) (by have := DK.out.len; omega) L1.out (by have := DK.out.steps; omega) (by rw [DK.out.way]; decide) s1 _ ho1)
      have HRC := hid (show (scD s1 50 (nextR r) bs).recs = ts.map TS.p from DK.out.recs.trans HTS.out.symm)
      have HLN := hid (show ts.length ≤ 1000000 from by have h := congrArg List.length HTS.out; rw [List.length_map] at h; have := DK.out.few; omega)
      clear ho1 hd1 hw1 hl1 ht1
      go_upto_region 18 with (go_at_call 29; go_must (refine CO.out.mono ?_; rintro e w3 ⟨q, rfl, h3, hk3⟩; have S3 := hid h3; have TX3 := hid (hk3.texts TX.out (fun _ h => h)); clear h3 hk3; dsimp only))
      have CR := hid (lsc_recs w1 w3 _ g q _ S3.out)
      rw [HRC.out] at CR
      go_wp2_with (first
        | (go_at_call 36; go_must (refine CR.out.mono ?_; rintro e w4 ⟨ts4, bv4, rfl, hm4, htx4, hb4⟩; obtain ⟨a4, n4, c4, rfl, _, _, _⟩ := htx4.rb.cs; have M4 := hid hm4; have TX4 := hid htx4; have B4 := hid hb4; have CSM := hid (show Calls Tryd.prog 35 #[.slice a4 n4 c4, .slice av an ac] w4 (fun e w' => e = .returned (.bool true) ∧ Below w4.heap.size w4 w') from (by have h1 := htx4.bl; rw [hm4] at h1; refine (same7_calls w4 _ _ a4 n4 c4 _ av an ac _ h1 (TX3.out.blx.below hb4) (by rw [List.length_map]; exact HLN.out) (by rw [List.length_map]; exact HLN.out)).mono fun e w' h => ⟨by rw [h.1]; simp, h.2⟩)); clear hm4 htx4 hb4; dsimp only))
        | (go_at_call 35; go_must (refine CSM.out.mono ?_; rintro e w5 ⟨rfl, hb5⟩; have B5 := hid hb5; clear hb5; dsimp only)))
      go_ret
      have h3 := B1.out.trans (S3.out.1.mono B1.out.size)
      have h4 := h3.trans (B4.out.mono h3.size)
      exact ⟨rfl, h4.trans (B5.out.mono h4.size)⟩
end Go.Proofs.YtoapibbbooongaaDoor
