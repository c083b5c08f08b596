/- The law's own of layer 8: an image that isn't too great; as the program has it, as the document has it. -/
import Derived.Test.YtoapibbbooongaaDoorImgN
namespace Go.Proofs.YtoapibbbooongaaDoor
open Go.RowKit Go.Quad _root_.Quad _root_.Quad.Slab

theorem lt_of_cell8 {w : World} {a : Addr} {v : Value} (h : w.cell? a = some v) : a.block < w.heap.size := by
  unfold World.cell? at h
  split at h
  · rename_i hb; exact (Array.getElem?_eq_some_iff.1 hb).1
  · simp at h
def refV (x : Img) (bv av : Value) : List Value := [.int .u32 (x.job : Int), .int .u32 (x.ver : Int), .int .i64 x.credit, bv, av]
def fewI (x : Img) : Img := { x with blobs := (x.blobs.take 20).map fun b => b.take 110 }
def FewTo (w : World) (x : Img) (e : Ending) (w' : World) : Prop := ∃ ts bv, e = .returned (.agg (refV x bv (.slice none 0 0)).toArray) ∧ ts.map TS.p = (fewI x).blobs ∧ Texts w w' ts bv ∧ Below w.heap.size w w'
def FwRel (w3 : World) (q : Nat) (x : Img) (iv : Value) (wr : World) : Prop :=
  ∃ (k : Nat) (ts : List TS) (bv : Value), iv = .int .i64 (k : Int) ∧ k ≤ x.blobs.length ∧ ts.map TS.p = ((x.blobs.take (min k 20)).map fun b => b.take 110) ∧ Blk wr q (refV x bv (.slice none 0 0)) 53 ∧ Texts w3 wr ts bv ∧ Chg [q] w3 wr
def zref : List Value := [.int .u32 0, .int .u32 0, .int .i64 0, .slice none 0 0, .slice none 0 0]
set_option maxRecDepth 100000 in
set_option maxHeartbeats 8000000 in
theorem few_calls (w : World) (Q : Nat → Prop) (x : Img) (ba : Option Addr) (bn bc : Nat) (aa : Option Addr) (an ac : Nat) (h : BL w Q (.slice ba bn bc) x.blobs) (hm : x.blobs.length ≤ 9223372036854775807) :
    Calls Tryd.prog 22 #[.agg (refV x (.slice ba bn bc) (.slice aa an ac)).toArray] w (FewTo w x) := by
  have H := hid h
  obtain rfl : bn = x.blobs.length := h.len.1
  have hm' : (x.blobs.length : Int) ≤ 9223372036854775807 := by omega
  clear h
  unfold refV
  obtain ⟨job, ver, cr, bl, at'⟩ := x
  dsimp only at *
  go_enter Tryd.func22, Tryd.ntmps22
  go_upto_region 2 with fail
  obtain ⟨q0, hq0⟩ : ∃ q0, w.heap.size = q0 := ⟨_, rfl⟩
  have b1 := below_alloc w (.cells #[.int .u32 (job : Int), .int .u32 (ver : Int), .int .i64 cr, .slice ba bl.length bc, .slice aa an ac] 53)
  have x1 := blk_alloc w [.int .u32 (job : Int), .int .u32 (ver : Int), .int .i64 cr, .slice ba bl.length bc, .slice aa an ac] 53
  have b2 := below_alloc (w.alloc (.cells #[.int .u32 (job : Int), .int .u32 (ver : Int), .int .i64 cr, .slice ba bl.length bc, .slice aa an ac] 53)) (.cells #[.int .u32 0, .int .u32 0, .int .i64 0, .slice none 0 0, .slice none 0 0] 53)
  have x2 := blk_alloc (w.alloc (.cells #[.int .u32 (job : Int), .int .u32 (ver : Int), .int .i64 cr, .slice ba bl.length bc, .slice aa an ac] 53)) [.int .u32 0, .int .u32 0, .int .i64 0, .slice none 0 0, .slice none 0 0] 53
  have b3 := below_alloc ((w.alloc (.cells #[.int .u32 (job : Int), .int .u32 (ver : Int), .int .i64 cr, .slice ba bl.length bc, .slice aa an ac] 53)).alloc (.cells #[.int .u32 0, .int .u32 0, .int .i64 0, .slice none 0 0, .slice none 0 0] 53)) (.cells #[.int .u32 (job : Int), .int .u32 (ver : Int), .int .i64 cr, .slice none 0 0, .slice none 0 0] 53)
  have x3 := blk_alloc ((w.alloc (.cells #[.int .u32 (job : Int), .int .u32 (ver : Int), .int .i64 cr, .slice ba bl.length bc, .slice aa an ac] 53)).alloc (.cells #[.int .u32 0, .int .u32 0, .int .i64 0, .slice none 0 0, .slice none 0 0] 53)) [.int .u32 (job : Int), .int .u32 (ver : Int), .int .i64 cr, .slice none 0 0, .slice none 0 0] 53
  have z1 : (w.alloc (.cells #[.int .u32 (job : Int), .int .u32 (ver : Int), .int .i64 cr, .slice ba bl.length bc, .slice aa an ac] 53)).heap.size = q0 + 1 := by simp; omega
  have z2 : ((w.alloc (.cells #[.int .u32 (job : Int), .int .u32 (ver : Int), .int .i64 cr, .slice ba bl.length bc, .slice aa an ac] 53)).alloc (.cells #[.int .u32 0, .int .u32 0, .int .i64 0, .slice none 0 0, .slice none 0 0] 53)).heap.size = q0 + 2 := by simp; omega
  have z3 : (((w.alloc (.cells #[.int .u32 (job : Int), .int .u32 (ver : Int), .int .i64 cr, .slice ba bl.length bc, .slice aa an ac] 53)).alloc (.cells #[.int .u32 0, .int .u32 0, .int .i64 0, .slice none 0 0, .slice none 0 0] 53)).alloc (.cells #[.int .u32 (job : Int), .int .u32 (ver : Int), .int .i64 cr, .slice none 0 0, .slice none 0 0] 53)).heap.size = q0 + 3 := by simp; omega
  rw [z1] at x2
  rw [z2] at x3
  have X1 := hid ((x1.below b2).below b3)
  have Z2 := hid (x2.below b3)
  have Y3 := hid x3
  have B3 := hid ((b1.trans (b2.mono b1.size)).trans (b3.mono (Nat.le_trans b1.size b2.size)))
  have S3 := hid z3
  clear b1 x1 b2 x2 b3 x3 z1 z2 z3
  rw [show w.heap.size + 1 + 1 = q0 + 2 from by omega, hq0]
  rw [hq0] at X1
  have HQ0 := hid hq0
  clear hq0
  generalize (((w.alloc (.cells #[.int .u32 (job : Int), .int .u32 (ver : Int), .int .i64 cr, .slice ba bl.length bc, .slice aa an ac] 53)).alloc (.cells #[.int .u32 0, .int .u32 0, .int .i64 0, .slice none 0 0, .slice none 0 0] 53)).alloc (.cells #[.int .u32 (job : Int), .int .u32 (ver : Int), .int .i64 cr, .slice none 0 0, .slice none 0 0] 53)) = w3 at X1 Z2 Y3 B3 S3 ⊢
  have k3 := X1.out.get 3 rfl
  have R0 := hid (show FwRel w3 (q0 + 2) ⟨job, ver, cr, bl, at'⟩ (.int .i64 0) w3 from ⟨0, [], .slice none 0 0, rfl, Nat.zero_le _, by simp, Y3.out, ⟨RO.nil _ _ _ _ _, by simp⟩, Chg.refl _ _⟩)
  obtain ⟨q, hq⟩ : ∃ q, q0 + 2 = q := ⟨_, rfl⟩
  rw [hq] at R0 ⊢
  have HQ := hid hq
  clear hq
  go_wp2_with fail
  go_loopw [4, 5, 16] (fun _ _ iv wr => FwRel w3 q ⟨job, ver, cr, bl, at'⟩ iv wr) (fun _ _ iv _ => bl.length - (intOf iv).toNat)
  case atStart => exact R0.out
  case round =>
    obtain ⟨k, ts, bv, rfl, hk, hts, hx, htx, hcg⟩ := hrel
    have HTS := hid hts
    have HX := hid hx
    have TX := hid htx
    have CG := hid hcg
    have BR := hid (show Below w.heap.size w wr from B3.out.trans (hcg.below B3.out.size (by intro j hj; simp at hj; have := HQ.out; have := HQ0.out; omega)))
    have hlen : ts.length ≤ 20 := by have := congrArg List.length hts; rw [List.length_map, List.length_map, List.length_take] at this; dsimp only at this hk; omega
    have HLN := hid hlen
    clear hts hlen hcg
    dsimp only at hk
    obtain ⟨a3, n3, c3, rfl, _, _, _⟩ := htx.rb.cs
    clear htx
    by_cases hlt : k < bl.length
    · have hlt' : (k : Int) < (bl.length : Int) := by omega
      obtain ⟨b, off, rfl, _, v, hcell, a4, c4, rfl, hbs, _⟩ := (H.out.below BR.out).at hlt
      obtain ⟨tt, htt⟩ : ∃ tt, bl.getD k [] = tt := ⟨_, rfl⟩
      rw [htt] at hcell hbs
      have HTT := hid htt
      have BS4 := hid hbs
      clear htt
      by_cases h20 : k < 20
      · have h20' : (k : Int) < 20 := by omega
        obtain ⟨n4, hn4⟩ : ∃ n4, tt.length = n4 := ⟨_, rfl⟩
        obtain ⟨m4, hm4⟩ : ∃ m4, min n4 110 = m4 := ⟨_, rfl⟩
        rw [hn4] at hcell
        have hmin : min (n4 : Int) 110 = (m4 : Int) := by omega
        have hmc : (m4 : Int) ≤ (c4 : Int) := by have := hbs.fit; rw [List.length_map, hn4] at this; omega
        have hmx := hid hbs.max
        have HN4 := hid hn4
        have HM4 := hid hm4
        have d3 := (hx.below (below_drew wr)).get 3 rfl
        have e3 := (hx.below (below_drew wr)).free 3
        have d7 := (hx.below (below_alloc wr (.cells #[] 5))).get 3 rfl
        have d4 := ((hx.below (below_drew wr)).below (below_alloc wr.drew (.cells #[] 5))).get 3 rfl
        clear hx hbs hn4 hm4
        go_upto_region 6 with fail
        have HL4 := hid (show (tt.take m4).length = m4 from by rw [List.length_take]; have := HN4.out; have := HM4.out; omega)
        have T4 := hid (show BS wr a4 c4 (tt.take m4) from by have := CS.take BS4.out m4; unfold BS; rw [List.map_take]; exact this)
        go_region_law (first
          | (refine step_ok rfl ?_; refine opOk_append_lit0 (.tmp 25) (.tmp 30) _ 5 rfl info_u8 under_bytes wr.heap.size rfl (blk_alloc wr.drew [] 5) (l := tt.take m4) ((T4.out.below (below_drew wr)).below (below_alloc wr.drew _)) (by rw [HL4.out]; rfl) (by rw [HL4.out]; have := HM4.out; omega) wr.heap.size (Nat.le_refl _) ?_; intro v5 w5 ho5 hb5; obtain ⟨a5, n5, p5, rfl, hn5, hbs5, hof5⟩ := ob_n ho5; obtain rfl : n5 = m4 := (by rw [← hn5]; exact HL4.out); have BS5 := hid hbs5; have OF5 := hid hof5; have B5 := hid (show Below wr.heap.size wr w5 from ((below_drew wr).trans ((below_alloc wr.drew _).mono (below_drew wr).size)).trans (hb5.mono (Nat.le_trans (below_drew wr).size (below_alloc wr.drew _).size))); have K5 := hid (HX.out.below B5.out); have TX5 := hid (TX.out.keep (Chg.of_below [] B5.out) (by simp)); have d5 := K5.out.get 3 rfl; have d6 := (K5.out.below (below_alloc w5 (.cells #[.slice a5 n5 p5] 33))).get 3 rfl; have L5 := hid (show CS (w5.alloc (.cells #[.slice a5 n5 p5] 33)) (some ⟨w5.heap.size, 0, none⟩) 1 1 ([(⟨a5, p5, tt.take n5⟩ : TS)].flatMap tsV) from (by have := cs_lit w5 [.slice a5 n5 p5] 33 1 1 rfl (by simp [maxLen]); simpa [tsV, hn5] using this)); clear ho5 hb5 hbs5 hof5 hn5)
          | (refine step_ok rfl ?_; refine opOk_append_ro tsV_length tsV_one (by decide) (.tmp 24) (.tmp 32) _ rfl w3.heap.size 33 _ 24 info_slb rfl under_slbs _ ts (TX5.out.rb.below (below_alloc w5 _)) rfl (l' := [⟨a5, p5, tt.take n5⟩]) rfl (show CS _ _ _ _ ([(⟨a5, p5, tt.take n5⟩ : TS)].flatMap tsV) from L5.out) (Nat.le_refl _) rfl (by have := HLN.out; simp; omega) (Nat.le_trans (Nat.le_trans CG.out.size B5.out.size) (below_alloc w5 _).size) ?_; intro v6 w6 ho6 hg6 hv6; obtain ⟨a6, n6, c6, rfl, _, _, _⟩ := ho6.cs; have O6 := hid ho6; have G6 := hid hg6; have V6 := hid hv6; have X6 := hid ((K5.out.below (below_alloc w5 _)).keep (chg_grown hg6) (fun hm => by have := (TX5.out.rb.ownBlock _ (show (Value.slice a3 n3 c3).ownBlock = some q by simpa using hm)).1; have := S3.out; have := HQ.out; omega)); have g3 := X6.out.get 3 rfl; have i3 := X6.out.free 3; clear ho6 hg6 hv6))
        all_goals
          have hbw : Below wr.heap.size wr (w5.alloc (.cells #[.slice a5 n5 p5] 33)) := B5.out.trans ((below_alloc w5 _).mono B5.out.size)
          have ht6 := TX.out.more CG.out.size hbw ⟨a5, p5, tt.take n5⟩ (bs_keep BS5.out (Chg.of_below [] (below_alloc w5 _)) (.inr (by simp))) (fun x hx => ⟨by have := (OF5.out x hx).2.2.1; exact this, Nat.lt_of_lt_of_le (OF5.out x hx).2.2.2 (below_alloc w5 _).size⟩) O6.out G6.out V6.out
          have cs := chg_setCell w6 q 3 (.slice a6 n6 c6)
          have hcg : Chg [q] w3 w6 := (CG.out.trans (Chg.of_below _ hbw)).newer (chg_grown G6.out) (fun j hj => (TX.out.rb.ownBlock j (by simpa using hj)).1)
          have R : FwRel w3 q ⟨job, ver, cr, bl, at'⟩ (.int .i64 ((k : Int) + 1)) (w6.setCell ⟨q, 3, none⟩ (.slice a6 n6 c6)) := by
            refine ⟨k + 1, ts ++ [⟨a5, p5, tt.take n5⟩], .slice a6 n6 c6, rfl, hlt, ?_, X6.out.set 3 (.slice a6 n6 c6), ht6.keep cs (fun j hj => by rw [List.mem_singleton] at hj; have := S3.out; have := HQ.out; omega), hcg.trans cs⟩
            dsimp only
            rw [List.map_append, HTS.out, Nat.min_eq_left (by omega : k ≤ 20), Nat.min_eq_left (by omega : k + 1 ≤ 20), List.take_succ_eq_append_getElem hlt, ← getD_in (d := []) hlt, HTT.out, List.map_append, ← HM4.out, ← HN4.out]
            simp [List.take_eq_take_iff, Nat.min_comm]
          have HR := hid R
          clear R hbw ht6 cs hcg
          go_wp2_with fail
          refine ⟨?_, by simp [intOf]; omega⟩
          first | exact HR.out | ((repeat apply Exists.intro); refine ⟨HR.out, ?_⟩; and_intros <;> rfl)
      · have h20' : ¬ ((k : Int) < 20) := by omega
        clear hx hbs
        have R : FwRel w3 q ⟨job, ver, cr, bl, at'⟩ (.int .i64 ((k : Int) + 1)) wr := by
          refine ⟨k + 1, ts, _, rfl, hlt, ?_, HX.out, TX.out, CG.out⟩
          dsimp only
          rw [HTS.out]
          dsimp only
          rw [Nat.min_eq_right (by omega : 20 ≤ k), Nat.min_eq_right (by omega : 20 ≤ k + 1)]
        have HR := hid R
        clear R
        go_wp2_with fail
        refine ⟨?_, by simp [intOf]; omega⟩
        first | exact HR.out | ((repeat apply Exists.intro); refine ⟨HR.out, ?_⟩; and_intros <;> rfl)
    · have hlt' : ¬ ((k : Int) < (bl.length : Int)) := by omega
      obtain rfl : k = bl.length := by omega
      have ZR := hid (Z2.out.keep CG.out (fun hj => by have := HQ.out; have h2 := List.mem_singleton.1 hj; omega))
      clear hx
      go_upto_region 8 with fail
      go_step
      repeat (first | (refine wpList_load_blk (o := ⟨some 36, _, _, _, _, _⟩) 53 (.tmp 3) rfl rfl q _ 53 rfl HX.out ⟨_, Tryd.underlying53, rfl⟩ (by kernel_rfl) ?_) | (refine wpList_store_blk (o := ⟨none, _, 0, _, _, _⟩) 53 (.tmp 2) (.tmp 36) rfl rfl (q0 + 1) _ _ 53 rfl rfl ZR.out rfl (by kernel_rfl) (by simp [refV, Value.oneCell']) ?_; intro wE hZE hCE) | go_step)
      refine bodyPost_ret (v := .agg (refV ⟨job, ver, cr, bl, at'⟩ (.slice a3 n3 c3) (.slice none 0 0)).toArray) (results_blk (fn := Tryd.f22) (p := 2) (ty := 53) rfl _ (q0 + 1) _ 53 rfl hZE ⟨_, Tryd.underlying53, rfl⟩ (by kernel_rfl)) rfl ?_
      refine ⟨ts, _, rfl, ?_, ?_, BR.out.trans (hCE.below BR.out.size (by intro j hj; simp at hj; have := HQ0.out; omega))⟩
      · rw [HTS.out]
        show ((bl.take (min bl.length 20)).map _) = (bl.take 20).map _
        by_cases h : bl.length ≤ 20
        · rw [Nat.min_eq_left h, List.take_of_length_le (Nat.le_refl _), List.take_of_length_le h]
        · rw [Nat.min_eq_right (by omega)]
      have hT := TX.out.keep hCE (by intro j hj; simp at hj; have := S3.out; omega)
      exact hT.base (Nat.le_of_lt (by have := S3.out; have := HQ0.out; omega))
set_option maxRecDepth 100000 in
set_option maxHeartbeats 4000000 in
theorem of_calls (w : World) (x : Img) (ba : Option Addr) (bn bc : Nat) (aa : Option Addr) (an ac : Nat) :
    Calls Tryd.prog 21 #[.agg (refV x (.slice ba bn bc) (.slice aa an ac)).toArray] w fun e w' => e = .returned (.agg (imgV x (.slice ba bn bc)).toArray) ∧ Below w.heap.size w w' := by
  unfold imgV refV
  obtain ⟨job, ver, cr, bl, at'⟩ := x
  dsimp only
  go_enter Tryd.func21, Tryd.ntmps21
  go_upto_region 1 with fail
  obtain ⟨q0, hq0⟩ : ∃ q0, w.heap.size = q0 := ⟨_, rfl⟩
  have b1 := below_alloc w (.cells #[.int .u32 (job : Int), .int .u32 (ver : Int), .int .i64 cr, .slice ba bn bc, .slice aa an ac] 53)
  have x1 := blk_alloc w [.int .u32 (job : Int), .int .u32 (ver : Int), .int .i64 cr, .slice ba bn bc, .slice aa an ac] 53
  have b2 := below_alloc (w.alloc (.cells #[.int .u32 (job : Int), .int .u32 (ver : Int), .int .i64 cr, .slice ba bn bc, .slice aa an ac] 53)) (.cells #[.int .u32 0, .int .u32 0, .int .i64 0, .slice none 0 0] 36)
  have x2 := blk_alloc (w.alloc (.cells #[.int .u32 (job : Int), .int .u32 (ver : Int), .int .i64 cr, .slice ba bn bc, .slice aa an ac] 53)) [.int .u32 0, .int .u32 0, .int .i64 0, .slice none 0 0] 36
  have z1 : (w.alloc (.cells #[.int .u32 (job : Int), .int .u32 (ver : Int), .int .i64 cr, .slice ba bn bc, .slice aa an ac] 53)).heap.size = q0 + 1 := by simp; omega
  rw [z1] at x2
  have X1 := hid (x1.below b2)
  have Z2 := hid x2
  have B2 := hid (b1.trans (b2.mono b1.size))
  clear b1 x1 b2 x2 z1
  rw [hq0] at X1 ⊢
  have HQ0 := hid hq0
  clear hq0
  generalize ((w.alloc (.cells #[.int .u32 (job : Int), .int .u32 (ver : Int), .int .i64 cr, .slice ba bn bc, .slice aa an ac] 53)).alloc (.cells #[.int .u32 0, .int .u32 0, .int .i64 0, .slice none 0 0] 36)) = w2 at X1 Z2 B2 ⊢
  have k0 := X1.out.get 0 rfl
  have k1 := X1.out.get 1 rfl
  have k2 := X1.out.get 2 rfl
  have k3 := X1.out.get 3 rfl
  go_step
  repeat (first | (refine wpList_store_blk (o := ⟨none, _, 0, _, _, _⟩) 36 (.tmp 2) (.tmp 11) rfl rfl (q0 + 1) _ _ 36 rfl rfl Z2.out rfl (by kernel_rfl) (by simp [Value.oneCell']) ?_; intro wE hZE hCE) | go_step)
  refine bodyPost_ret (v := .agg #[.int .u32 (job : Int), .int .u32 (ver : Int), .int .i64 cr, .slice ba bn bc]) (results_blk (fn := Tryd.f21) (p := 2) (ty := 36) rfl _ (q0 + 1) _ 36 rfl hZE ⟨_, Tryd.underlying36, rfl⟩ (by kernel_rfl)) rfl ?_
  exact ⟨rfl, B2.out.trans (hCE.below B2.out.size (by intro j hj; simp at hj; have := HQ0.out; omega))⟩
set_option maxRecDepth 100000 in
set_option maxHeartbeats 4000000 in
theorem back_calls (w : World) (x : Img) (ba : Option Addr) (bn bc : Nat) :
    Calls Tryd.prog 24 #[.agg (imgV x (.slice ba bn bc)).toArray] w fun e w' => e = .returned (.agg (refV x (.slice ba bn bc) (.slice none 0 0)).toArray) ∧ Below w.heap.size w w' := by
  unfold imgV refV
  obtain ⟨job, ver, cr, bl, at'⟩ := x
  dsimp only
  go_enter Tryd.func24, Tryd.ntmps24
  go_upto_region 1 with fail
  obtain ⟨q0, hq0⟩ : ∃ q0, w.heap.size = q0 := ⟨_, rfl⟩
  have b1 := below_alloc w (.cells #[.int .u32 (job : Int), .int .u32 (ver : Int), .int .i64 cr, .slice ba bn bc] 36)
  have x1 := blk_alloc w [.int .u32 (job : Int), .int .u32 (ver : Int), .int .i64 cr, .slice ba bn bc] 36
  have b2 := below_alloc (w.alloc (.cells #[.int .u32 (job : Int), .int .u32 (ver : Int), .int .i64 cr, .slice ba bn bc] 36)) (.cells #[.int .u32 0, .int .u32 0, .int .i64 0, .slice none 0 0, .slice none 0 0] 53)
  have x2 := blk_alloc (w.alloc (.cells #[.int .u32 (job : Int), .int .u32 (ver : Int), .int .i64 cr, .slice ba bn bc] 36)) [.int .u32 0, .int .u32 0, .int .i64 0, .slice none 0 0, .slice none 0 0] 53
  have z1 : (w.alloc (.cells #[.int .u32 (job : Int), .int .u32 (ver : Int), .int .i64 cr, .slice ba bn bc] 36)).heap.size = q0 + 1 := by simp; omega
  rw [z1] at x2
  have X1 := hid (x1.below b2)
  have Z2 := hid x2
  have B2 := hid (b1.trans (b2.mono b1.size))
  clear b1 x1 b2 x2 z1
  rw [hq0] at X1 ⊢
  have HQ0 := hid hq0
  clear hq0
  generalize ((w.alloc (.cells #[.int .u32 (job : Int), .int .u32 (ver : Int), .int .i64 cr, .slice ba bn bc] 36)).alloc (.cells #[.int .u32 0, .int .u32 0, .int .i64 0, .slice none 0 0, .slice none 0 0] 53)) = w2 at X1 Z2 B2 ⊢
  have k0 := X1.out.get 0 rfl
  have k1 := X1.out.get 1 rfl
  have k2 := X1.out.get 2 rfl
  have k3 := X1.out.get 3 rfl
  go_step
  repeat (first | (refine wpList_store_blk (o := ⟨none, _, 0, _, _, _⟩) 53 (.tmp 2) (.tmp 11) rfl rfl (q0 + 1) _ _ 53 rfl rfl Z2.out rfl (by kernel_rfl) (by simp [Value.oneCell']) ?_; intro wE hZE hCE) | go_step)
  refine bodyPost_ret (v := .agg #[.int .u32 (job : Int), .int .u32 (ver : Int), .int .i64 cr, .slice ba bn bc, .slice none 0 0]) (results_blk (fn := Tryd.f24) (p := 2) (ty := 53) rfl _ (q0 + 1) _ 53 rfl hZE ⟨_, Tryd.underlying53, rfl⟩ (by kernel_rfl)) rfl ?_
  exact ⟨rfl, B2.out.trans (hCE.below B2.out.size (by intro j hj; simp at hj; have := HQ0.out; omega))⟩
set_option maxRecDepth 100000 in
set_option maxHeartbeats 8000000 in
theorem isame_calls (w : World) (Q Q' : Nat → Prop) (x : Img) (ba : Option Addr) (bn bc : Nat) (aa : Option Addr) (an ac : Nat) (ba' : Option Addr) (bn' bc' : Nat) (aa' : Option Addr) (an' ac' : Nat) (h : BL w Q (.slice ba bn bc) x.blobs) (h' : BL w Q' (.slice ba' bn' bc') x.blobs) (hm : x.blobs.length ≤ 9223372036854775807) :
    Calls Tryd.prog 26 #[.agg (refV x (.slice ba bn bc) (.slice aa an ac)).toArray, .agg (refV x (.slice ba' bn' bc') (.slice aa' an' ac')).toArray] w fun e w' => e = .returned (.bool true) ∧ Below w.heap.size w w' := by
  have H := hid h
  have H' := hid h'
  obtain rfl : bn = x.blobs.length := h.len.1
  obtain rfl : bn' = x.blobs.length := h'.len.1
  clear h h'
  unfold refV
  obtain ⟨job, ver, cr, bl, at'⟩ := x
  dsimp only at *
  have hm' : (bl.length : Int) ≤ 9223372036854775807 := by omega
  go_enter Tryd.func26, Tryd.ntmps26
  go_upto_region 1 with fail
  obtain ⟨q0, hq0⟩ : ∃ q0, w.heap.size = q0 := ⟨_, rfl⟩
  have b1 := below_alloc w (.cells #[.int .u32 (job : Int), .int .u32 (ver : Int), .int .i64 cr, .slice ba bl.length bc, .slice aa an ac] 53)
  have x1 := blk_alloc w [.int .u32 (job : Int), .int .u32 (ver : Int), .int .i64 cr, .slice ba bl.length bc, .slice aa an ac] 53
  have b2 := below_alloc (w.alloc (.cells #[.int .u32 (job : Int), .int .u32 (ver : Int), .int .i64 cr, .slice ba bl.length bc, .slice aa an ac] 53)) (.cells #[.int .u32 (job : Int), .int .u32 (ver : Int), .int .i64 cr, .slice ba' bl.length bc', .slice aa' an' ac'] 53)
  have x2 := blk_alloc (w.alloc (.cells #[.int .u32 (job : Int), .int .u32 (ver : Int), .int .i64 cr, .slice ba bl.length bc, .slice aa an ac] 53)) [.int .u32 (job : Int), .int .u32 (ver : Int), .int .i64 cr, .slice ba' bl.length bc', .slice aa' an' ac'] 53
  have z1 : (w.alloc (.cells #[.int .u32 (job : Int), .int .u32 (ver : Int), .int .i64 cr, .slice ba bl.length bc, .slice aa an ac] 53)).heap.size = q0 + 1 := by simp; omega
  rw [z1] at x2
  have X1 := hid (x1.below b2)
  have X2 := hid x2
  have B2 := hid (b1.trans (b2.mono b1.size))
  clear b1 x1 b2 x2 z1
  rw [hq0] at X1 ⊢
  have HQ0 := hid hq0
  clear hq0
  generalize ((w.alloc (.cells #[.int .u32 (job : Int), .int .u32 (ver : Int), .int .i64 cr, .slice ba bl.length bc, .slice aa an ac] 53)).alloc (.cells #[.int .u32 (job : Int), .int .u32 (ver : Int), .int .i64 cr, .slice ba' bl.length bc', .slice aa' an' ac'] 53)) = w2 at X1 X2 B2 ⊢
  have k0 := X1.out.get 0 rfl
  have k1 := X1.out.get 1 rfl
  have k2 := X1.out.get 2 rfl
  have k3 := X1.out.get 3 rfl
  have j0 := X2.out.get 0 rfl
  have j1 := X2.out.get 1 rfl
  have j2 := X2.out.get 2 rfl
  have j3 := X2.out.get 3 rfl
  go_wp2_with fail
  go_loopw [5, 37] (fun _ iv wr => (∃ k : Nat, iv = .int .i64 (k : Int) ∧ k ≤ bl.length) ∧ Below w2.heap.size w2 wr) (fun _ iv _ => bl.length - (intOf iv).toNat)
  case atStart => exact ⟨⟨0, rfl, Nat.zero_le _⟩, Below.refl _ _⟩
  case round =>
    obtain ⟨⟨k, rfl, hk⟩, hb⟩ := hrel
    have HB := hid hb
    by_cases hlt : k < bl.length
    · have hlt' : (k : Int) < (bl.length : Int) := by omega
      have hbw := B2.out.trans (hb.mono B2.out.size)
      obtain ⟨b, off, rfl, _, v, hcell, a4, c4, rfl, hbs, _⟩ := (H.out.below hbw).at hlt
      obtain ⟨b', off', rfl, _, v', hcell', a5, c5, rfl, hbs', _⟩ := (H'.out.below hbw).at hlt
      obtain ⟨tt, htt⟩ : ∃ tt, bl.getD k [] = tt := ⟨_, rfl⟩
      rw [htt] at hcell hbs hcell' hbs'
      clear htt
      obtain ⟨n4, hn4⟩ : ∃ n4, tt.length = n4 := ⟨_, rfl⟩
      rw [hn4] at hcell hcell'
      have HL1 := hid (lt_of_cell8 hcell)
      have HL2 := hid (lt_of_cell8 hcell')
      have HC1 := hid hcell
      have HC2 := hid hcell'
      have MKS := hid fun (W : World) (hW : Below wr.heap.size wr W) => (show (W.cell? ⟨q0, 3, none⟩ = some (.slice (some ⟨b, off, none⟩) bl.length bc) ∧ W.cell? ⟨q0 + 1, 3, none⟩ = some (.slice (some ⟨b', off', none⟩) bl.length bc') ∧ W.cell? ⟨b, off + k, none⟩ = some (.slice a4 n4 c4) ∧ W.cell? ⟨b', off' + k, none⟩ = some (.slice a5 n4 c5) ∧ Below wr.heap.size wr W) from ⟨((X1.out.below HB.out).below hW).get 3 rfl, ((X2.out.below HB.out).below hW).get 3 rfl, (hW.cell HL1.out).trans HC1.out, (hW.cell HL2.out).trans HC2.out, hW⟩)
      have SB := hid fun (W : World) (h : W.cell? ⟨q0, 3, none⟩ = some (.slice (some ⟨b, off, none⟩) bl.length bc) ∧ W.cell? ⟨q0 + 1, 3, none⟩ = some (.slice (some ⟨b', off', none⟩) bl.length bc') ∧ W.cell? ⟨b, off + k, none⟩ = some (.slice a4 n4 c4) ∧ W.cell? ⟨b', off' + k, none⟩ = some (.slice a5 n4 c5) ∧ Below wr.heap.size wr W) => h.2.2.2.2
      have HC := hid fun (W : World) (hW : Below wr.heap.size wr W) => (show Calls Tryd.prog 33 #[.slice a4 n4 c4, .slice a5 n4 c5] W (fun e w' => e = .returned (.bool true) ∧ W = w') from (by have h0 := same_calls a4 a5 c4 c5 tt tt W (hbs.below hW) (hbs'.below hW); rw [hn4, beq_self_eq_true] at h0; exact h0))
      have HN4 := hid hn4
      clear hn4 hbs hbs' hcell hcell' hbw k0 k1 k2 k3 j0 j1 j2 j3
      go_upto_region 6 with fail
      go_region_held3 (fun W => (W.cell? ⟨q0, 3, none⟩ = some (.slice (some ⟨b, off, none⟩) bl.length bc) ∧ W.cell? ⟨q0 + 1, 3, none⟩ = some (.slice (some ⟨b', off', none⟩) bl.length bc') ∧ W.cell? ⟨b, off + k, none⟩ = some (.slice a4 n4 c4) ∧ W.cell? ⟨b', off' + k, none⟩ = some (.slice a5 n4 c5) ∧ Below wr.heap.size wr W))
        ((refine MKS.out _ ?_; first | with_reducible exact below_drew _ | with_reducible exact Below.refl _ _ | with_reducible exact SB.out _ (by assumption)))
        ((go_at_call 33; refine (HC.out _ (SB.out _ (by assumption))).mono ?_; rintro e w5 ⟨rfl, rfl⟩))
      have HR := hid (show Below w2.heap.size w2 wr.drew from HB.out.trans ((below_drew wr).mono HB.out.size))
      go_wp2_with fail
      refine ⟨?_, by simp [intOf]; omega⟩
      first | exact ⟨⟨k + 1, rfl, hlt⟩, HR.out⟩ | ((repeat apply Exists.intro); refine ⟨⟨⟨k + 1, rfl, hlt⟩, HR.out⟩, ?_⟩; and_intros <;> rfl)
    · have hlt' : ¬ ((k : Int) < (bl.length : Int)) := by omega
      clear k0 k1 k2 k3 j0 j1 j2 j3
      go_wp2_with fail
      go_ret
      exact ⟨rfl, B2.out.trans (HB.out.mono B2.out.size)⟩
end Go.Proofs.YtoapibbbooongaaDoor
