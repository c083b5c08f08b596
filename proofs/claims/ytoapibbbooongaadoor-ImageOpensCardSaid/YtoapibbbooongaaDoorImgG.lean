/- The walks of layer 8: an image of its own; a job's image. -/
import Derived.Test.YtoapibbbooongaaDoorImgL
import Derived.Test.YtoapibbbooongaaDoorBlkG
namespace Go.Proofs.YtoapibbbooongaaDoor
open Go.RowKit Go.Quad _root_.Quad _root_.Quad.Slab

def CopyTo (w : World) (x : Img) (e : Ending) (w' : World) : Prop := ∃ ts bv, e = .returned (.agg (imgV x bv).toArray) ∧ ts.map TS.p = x.blobs ∧ Texts w w' ts bv ∧ Below w.heap.size w w'
def CopyTo2 (w : World) (x : Img) (e : Ending) (w' : World) : Prop := ∃ ts bv, e = .returned (.agg (imgV x bv).toArray) ∧ ts.map TS.p = x.blobs ∧ Texts w w' ts bv ∧ Below w.heap.size w w' ∧ Loose w' ts
def CpRel (w3 : World) (q : Nat) (x : Img) (iv : Value) (wr : World) : Prop :=
  ∃ (k : Nat) (ts : List TS) (bv : Value), iv = .int .i64 (k : Int) ∧ k ≤ x.blobs.length ∧ ts.map TS.p = x.blobs.take k ∧ Blk wr q (imgV x bv) 36 ∧ Texts w3 wr ts bv ∧ Chg [q] w3 wr ∧ Loose wr ts
def zimg : List Value := [.int .u32 0, .int .u32 0, .int .i64 0, .slice none 0 0]
set_option maxRecDepth 100000 in
set_option maxHeartbeats 4000000 in
theorem copy2_calls (w : World) (Q : Nat → Prop) (x : Img) (ba : Option Addr) (bn bc : Nat) (h : BL w Q (.slice ba bn bc) x.blobs) (hl : x.blobs.length ≤ 1000) (hs : ∀ b ∈ x.blobs, b.length ≤ 100000) :
    Calls Tryd.prog 55 #[.agg (imgV x (.slice ba bn bc)).toArray] w (CopyTo2 w x) := by
  have H := hid h
  obtain rfl : bn = x.blobs.length := h.len.1
  have hl' : (x.blobs.length : Int) ≤ 1000 := by omega
  have HSM := hid hs
  clear h hs
  unfold imgV
  obtain ⟨job, ver, cr, bl, at'⟩ := x
  dsimp only at *
  go_enter Tryd.func55, Tryd.ntmps55
  go_upto_region 1 with fail
  obtain ⟨q, hqq⟩ : ∃ q, w.heap.size = q := ⟨_, rfl⟩
  have b1 := below_alloc w (.cells #[.int .u32 (job : Int), .int .u32 (ver : Int), .int .i64 cr, .slice ba bl.length bc] 36)
  have x1 := blk_alloc w [.int .u32 (job : Int), .int .u32 (ver : Int), .int .i64 cr, .slice ba bl.length bc] 36
  have b2 := below_alloc (w.alloc (.cells #[.int .u32 (job : Int), .int .u32 (ver : Int), .int .i64 cr, .slice ba bl.length bc] 36)) (.cells #[.int .u32 0, .int .u32 0, .int .i64 0, .slice none 0 0] 36)
  have x2 := blk_alloc (w.alloc (.cells #[.int .u32 (job : Int), .int .u32 (ver : Int), .int .i64 cr, .slice ba bl.length bc] 36)) [.int .u32 0, .int .u32 0, .int .i64 0, .slice none 0 0] 36
  have z1 : (w.alloc (.cells #[.int .u32 (job : Int), .int .u32 (ver : Int), .int .i64 cr, .slice ba bl.length bc] 36)).heap.size = q + 1 := by simp; omega
  have z2 : ((w.alloc (.cells #[.int .u32 (job : Int), .int .u32 (ver : Int), .int .i64 cr, .slice ba bl.length bc] 36)).alloc (.cells #[.int .u32 0, .int .u32 0, .int .i64 0, .slice none 0 0] 36)).heap.size = q + 2 := by simp; omega
  rw [z1] at x2
  have K1 := hid (x1.below b2)
  have Z1 := hid x2
  have B1 := hid (b1.trans (b2.mono b1.size))
  have S1 := hid z2
  clear x1 x2 b1 b2 z1 z2
  rw [hqq] at K1 ⊢
  generalize ((w.alloc (.cells #[.int .u32 (job : Int), .int .u32 (ver : Int), .int .i64 cr, .slice ba bl.length bc] 36)).alloc (.cells #[.int .u32 0, .int .u32 0, .int .i64 0, .slice none 0 0] 36)) = w1 at K1 Z1 B1 S1 ⊢
  have k3 := K1.out.get 3 rfl
  have f3 := K1.out.free 3
  go_upto_region 3 with fail
  have hc3 := chg_setCell w1 q 3 (.slice none 0 0)
  have K3 := hid (K1.out.set 3 (.slice none 0 0))
  have Z3 := hid (Z1.out.keep hc3 (by simp))
  have B3 := hid (B1.out.trans (hc3.below B1.out.size (by intro j hj; simp at hj; omega)))
  have S3 := hid (show (w1.setCell ⟨q, 3, none⟩ (.slice none 0 0)).heap.size = q + 2 from by have := hc3.size; have h2 := S1.out; simp [World.setCell]; omega)
  clear k3 f3 hc3
  generalize w1.setCell ⟨q, 3, none⟩ (.slice none 0 0) = w3 at K3 Z3 B3 S3 ⊢
  have R0 := hid (show CpRel w3 q ⟨job, ver, cr, bl, at'⟩ (.int .i64 0) w3 from ⟨0, [], .slice none 0 0, rfl, Nat.zero_le _, rfl, K3.out, ⟨RO.nil _ _ _ _ _, by simp⟩, Chg.refl _ _, fun t ht => by cases ht⟩)
  go_wp2_with fail
  go_loopw [5, 11] (fun _ iv wr => CpRel w3 q ⟨job, ver, cr, bl, at'⟩ iv wr) (fun _ iv _ => bl.length - (intOf iv).toNat)
  case atStart => exact R0.out
  case round =>
    obtain ⟨k, ts, bv, rfl, hk, hts, hx, htx, hcg, hlo⟩ := hrel
    have HTS := hid hts
    have LO := hid hlo
    have HX := hid hx
    have TX := hid htx
    have CG := hid hcg
    have BR := hid (B3.out.trans (hcg.below B3.out.size (by intro j hj; simp at hj; omega)))
    have hlen : ts.length = k := by have := congrArg List.length hts; rw [List.length_map, List.length_take] at this; dsimp only at this hk; omega
    have HLN := hid hlen
    clear hts hlen hcg hlo
    dsimp only at hk
    obtain ⟨a3, n3, c3, rfl, _, _, _⟩ := htx.rb.cs
    clear htx
    by_cases hlt : k < bl.length
    · have hlt' : (k : Int) < (bl.length : Int) := by omega
      obtain ⟨b, off, rfl, _, v, hcell, a4, c4, rfl, hbs, _⟩ := (H.out.below BR.out).at hlt
      have hsm := HSM.out (bl.getD k []) (by rw [getD_in hlt]; exact List.getElem_mem hlt)
      obtain ⟨tt, htt⟩ : ∃ tt, bl.getD k [] = tt := ⟨_, rfl⟩
      rw [htt] at hcell hbs hsm
      have HTT := hid htt
      have BS4 := hid hbs
      have SM := hid hsm
      clear hbs hsm htt
      have d3 := (hx.below (below_drew wr)).get 3 rfl
      have e3 := (hx.below (below_drew wr)).free 3
      clear hx
      go_upto_region 6 with fail
      go_region_law (first
        | (refine step_ok rfl ?_; refine opOk_append_ro tsV_length tsV_one (by decide) (.tmp 16) (.tmp 19) _ rfl w3.heap.size 33 _ 24 info_slb rfl under_slbs _ ts (TX5.out.rb.below (below_alloc w5 _)) rfl (l' := [⟨a5, p5, tt⟩]) rfl (show CS _ _ _ _ ([(⟨a5, p5, tt⟩ : TS)].flatMap tsV) from L5.out) (Nat.le_refl _) rfl (by have := HLN.out; simp; omega) (Nat.le_trans (Nat.le_trans CG.out.size (Nat.le_trans (below_drew wr).size B5.out.size)) (below_alloc w5 _).size) ?_; intro v6 w6 ho6 hg6 hv6; obtain ⟨a6, n6, c6, rfl, _, _, _⟩ := ho6.cs; have O6 := hid ho6; have G6 := hid hg6; have V6 := hid hv6; have X6 := hid ((K5.out.below (below_alloc w5 _)).keep (chg_grown hg6) (fun hm => by have := (TX5.out.rb.ownBlock _ (show (Value.slice a3 n3 c3).ownBlock = some q by simpa using hm)).1; have := S3.out; omega)); have g3 := X6.out.get 3 rfl; have i3 := X6.out.free 3; clear ho6 hg6 hv6)
        | (refine step_ok rfl ?_; refine opOk_call (f := 75) (args := #[.slice a4 tt.length c4]) ?_ ?_; (focus (go_simp; done)); go_must (refine (clone_calls a4 c4 tt _ (BS4.out.below (below_drew wr)) (by have := SM.out; omega)).mono ?_; rintro e w5 ⟨v5, rfl, ho5, hb5⟩; refine ⟨v5, rfl, ?_⟩; obtain ⟨a5, p5, rfl, hbs5, hof5⟩ := ho5.bs; have BS5 := hid hbs5; have OF5 := hid hof5; have LO5 := hid (OB.loose ho5); have B5 := hid hb5; have K5 := hid ((HX.out.below (below_drew wr)).below hb5); have TX5 := hid (((TX.out.keep (Chg.of_below [] (below_drew wr)) (by simp))).keep (Chg.of_below [] hb5) (by simp)); have j3 := K5.out.get 3 rfl; have j4 := (K5.out.below (below_alloc w5 (.cells #[.slice a5 tt.length p5] 33))).get 3 rfl; have L5 := hid (cs_lit w5 [.slice a5 tt.length p5] 33 1 1 rfl (by simp [maxLen])); clear ho5 hb5 hbs5 hof5)))
      all_goals
        have hbw : Below wr.heap.size wr (w5.alloc (.cells #[.slice a5 tt.length p5] 33)) := ((below_drew wr).trans (B5.out.mono (below_drew wr).size)).trans ((below_alloc w5 _).mono (Nat.le_trans (below_drew wr).size B5.out.size))
        have ht6 := TX.out.more CG.out.size hbw ⟨a5, p5, tt⟩ (bs_keep BS5.out (Chg.of_below [] (below_alloc w5 _)) (.inr (by simp))) (fun x hx => ⟨by have := (OF5.out x hx).2.2.1; exact this, Nat.lt_of_lt_of_le (OF5.out x hx).2.2.2 (below_alloc w5 _).size⟩) O6.out G6.out V6.out
        have cs := chg_setCell w6 q 3 (.slice a6 n6 c6)
        have hcg : Chg [q] w3 w6 := (CG.out.trans (Chg.of_below _ hbw)).newer (chg_grown G6.out) (fun j hj => (TX.out.rb.ownBlock j (by simpa using hj)).1)
        have R : CpRel w3 q ⟨job, ver, cr, bl, at'⟩ (.int .i64 ((k : Int) + 1)) (w6.setCell ⟨q, 3, none⟩ (.slice a6 n6 c6)) := by
          refine ⟨k + 1, ts ++ [⟨a5, p5, tt⟩], .slice a6 n6 c6, rfl, hlt, ?_, X6.out.set 3 (.slice a6 n6 c6), ht6.keep cs (fun j hj => by rw [List.mem_singleton] at hj; have := S3.out; omega), hcg.trans cs, (LO.out.more TX.out hbw ⟨a5, p5, tt⟩ (fun x hx => ⟨by have := (OF5.out x hx).2.2.1; have := (below_drew wr).size; omega, by obtain ⟨cur, hk⟩ := LO5.out x hx; exact ⟨cur, hk.below (below_alloc w5 _)⟩⟩) G6.out).keep cs (fun t ht x hx hm => by
            rw [List.mem_singleton] at hm
            rcases List.mem_append.1 ht with ht | ht
            · have := ((TX.out.tx t ht).2 x hx).1; have := S3.out; omega
            · rw [List.mem_singleton] at ht; subst ht; have := (OF5.out x hx).2.2.1; have := (below_drew wr).size; have := HX.out.lt; omega)⟩
          show _ = bl.take (k + 1)
          rw [List.map_append, HTS.out, List.take_succ_eq_append_getElem hlt, ← getD_in (d := []) hlt, HTT.out]
          rfl
        have HR := hid R
        clear R hbw ht6 cs hcg
        go_wp2_with fail
        refine ⟨?_, by simp [intOf]; omega⟩
        first | exact HR.out | ((repeat apply Exists.intro); refine ⟨HR.out, ?_⟩; and_intros <;> rfl)
    · have hlt' : ¬ ((k : Int) < (bl.length : Int)) := by omega
      obtain rfl : k = bl.length := by omega
      have ZR := hid (Z3.out.keep CG.out (by simp))
      go_upto_region 8 with fail
      go_step
      repeat (first | (refine wpList_load_blk (o := ⟨some 23, _, _, _, _, _⟩) 36 (.tmp 1) rfl rfl q _ 36 rfl HX.out ⟨_, Tryd.underlying36, rfl⟩ (by kernel_rfl) ?_) | (refine wpList_store_blk (o := ⟨none, _, 0, _, _, _⟩) 36 (.tmp 2) (.tmp 23) rfl rfl (q + 1) _ _ 36 rfl rfl ZR.out rfl (by kernel_rfl) (by simp [imgV, Value.oneCell']) ?_; intro wE hZE hCE) | go_step)
      refine bodyPost_ret (v := .agg (imgV ⟨job, ver, cr, bl, at'⟩ (.slice a3 n3 c3)).toArray) (results_blk (fn := Tryd.f55) (p := 2) (ty := 36) rfl _ (q + 1) _ 36 rfl hZE ⟨_, Tryd.underlying36, rfl⟩ (by kernel_rfl)) rfl ?_
      refine ⟨ts, _, rfl, by rw [HTS.out]; exact List.take_length, ?_, BR.out.trans (hCE.below BR.out.size (by intro j hj; simp at hj; omega)), LO.out.keep hCE (fun t ht x hx hm => by rw [List.mem_singleton] at hm; have := ((TX.out.tx t ht).2 x hx).1; have := S3.out; omega)⟩
      have hT := TX.out.keep hCE (by intro j hj; simp at hj; have := S3.out; omega)
      exact hT.base (Nat.le_of_lt (by have := S3.out; omega))
theorem copy_calls (w : World) (Q : Nat → Prop) (x : Img) (ba : Option Addr) (bn bc : Nat) (h : BL w Q (.slice ba bn bc) x.blobs) (hl : x.blobs.length ≤ 1000) (hs : ∀ b ∈ x.blobs, b.length ≤ 100000) :
    Calls Tryd.prog 55 #[.agg (imgV x (.slice ba bn bc)).toArray] w (CopyTo w x) :=
  (copy2_calls w Q x ba bn bc h hl hs).mono fun _ _ ⟨ts, bv, e, h1, h2, h3, _⟩ => ⟨ts, bv, e, h1, h2, h3⟩
def GetTo2 (w : World) (r : Option Img) (e : Ending) (w' : World) : Prop :=
  Below w.heap.size w w' ∧ match r with
  | none => e = .returned (.tuple #[.agg zimg.toArray, .int .i64 6])
  | some x => ∃ ts bv, e = .returned (.tuple #[.agg (imgV x bv).toArray, .int .i64 0]) ∧ ts.map TS.p = x.blobs ∧ Texts w w' ts bv ∧ Loose w' ts
def GetTo (w : World) (r : Option Img) (e : Ending) (w' : World) : Prop :=
  Below w.heap.size w w' ∧ match r with
  | none => e = .returned (.tuple #[.agg zimg.toArray, .int .i64 6])
  | some x => ∃ ts bv, e = .returned (.tuple #[.agg (imgV x bv).toArray, .int .i64 0]) ∧ ts.map TS.p = x.blobs ∧ Texts w w' ts bv
set_option maxRecDepth 100000 in
set_option maxHeartbeats 2000000 in
theorem nilget_calls (w : World) (job : Nat) : Calls Tryd.prog 15 #[.pointer none, .int .u32 (job : Int)] w (GetTo w none) := by
  have b1 := below_alloc w (.cells zimg.toArray 36)
  have z1 := blk_alloc w zimg 36
  unfold zimg at b1 z1
  have B1 := hid b1
  have Z1 := hid (show Blk _ w.heap.size zimg 36 from z1)
  clear b1 z1
  go_enter Tryd.func15, Tryd.ntmps15
  go_upto_region 2 with fail
  generalize (w.alloc (.cells #[.int .u32 0, .int .u32 0, .int .i64 0, .slice none 0 0] 36)) = w1 at B1 Z1 ⊢
  go_step
  repeat (first | (refine wpList_store_blk (o := ⟨none, _, 0, _, _, _⟩) 36 (.tmp 4) (.tmp 10) rfl rfl w.heap.size zimg _ 36 rfl rfl Z1.out rfl (by kernel_rfl) (by simp [zimg, Value.oneCell']) ?_; intro wE hZE hCE) | go_step)
  refine bodyPost_ret (v := .tuple #[.agg zimg.toArray, .int .i64 6]) (results_blk2 (fn := Tryd.f15) (p := 4) (q := 5) (ty := 36) rfl _ w.heap.size _ 36 (.int .i64 6) rfl rfl hZE ⟨_, Tryd.underlying36, rfl⟩ (by kernel_rfl)) rfl ?_
  exact ⟨B1.out.trans (hCE.below B1.out.size (by simp)), rfl⟩
set_option maxRecDepth 100000 in
set_option maxHeartbeats 4000000 in
theorem get2_calls (w : World) (B g c mb fg fd : Nat) (Q : Nat → Prop) (E : List Ent) (I : Im) (h : IsSto w B g c mb fg fd Q E I) (hsm : ∀ x ∈ I.L, ∀ b ∈ x.blobs, b.length ≤ 100000) (job : Nat) (hj : job < 4294967296) :
    Calls Tryd.prog 15 #[.pointer (some ⟨c, 0, none⟩), .int .u32 (job : Int)] w (GetTo2 w (findI I.L job)) := by
  have hfd := h.find job
  obtain ⟨r, hr⟩ : ∃ r, E.find? (fun e => e.key == job) = r := ⟨_, rfl⟩
  rw [hr] at hfd
  rw [hfd]
  have b1 := below_alloc w (.cells zimg.toArray 36)
  have z1 := blk_alloc w zimg 36
  unfold zimg at b1 z1
  have B1 := hid b1
  have Z1 := hid (show Blk _ w.heap.size zimg 36 from z1)
  have I1 := hid (h.below b1)
  obtain ⟨D, hD, hM⟩ := I1.out.map
  have hlk := look_run hD hM (W := w.alloc (.cells #[.int .u32 0, .int .u32 0, .int .i64 0, .slice none 0 0] 36)) rfl hj
  rw [hr] at hlk
  have LK := hid hlk
  have HR := hid hr
  have HSM := hid hsm
  clear b1 z1 hfd hD hM hlk hr h hsm
  cases r with
  | none =>
    go_enter Tryd.func15, Tryd.ntmps15
    go_upto_region 3 with fail
    have hLk := LK.out
    rw [show (lookV none).toArray = #[.int .u32 0, .int .u32 0, .int .i64 0, .slice none 0 0, .slice none 0 0] from rfl] at hLk
    generalize (w.alloc (.cells #[.int .u32 0, .int .u32 0, .int .i64 0, .slice none 0 0] 36)) = w1 at B1 Z1 I1 hLk ⊢
    have c4 := I1.out.own.get 4 rfl
    clear LK
    go_upto_region 5 with fail
    have Z2 := hid (Z1.out.below (below_alloc w1 (.cells #[.int .u32 0, .int .u32 0, .int .i64 0, .slice none 0 0, .slice none 0 0] 100)))
    have B2 := hid (B1.out.trans ((below_alloc w1 (.cells #[.int .u32 0, .int .u32 0, .int .i64 0, .slice none 0 0, .slice none 0 0] 100)).mono B1.out.size))
    replace Z1 := Z2
    generalize (w1.alloc (.cells #[.int .u32 0, .int .u32 0, .int .i64 0, .slice none 0 0, .slice none 0 0] 100)) = w2 at Z1 B2 Z2 ⊢
    go_step
    repeat (first | (refine wpList_store_blk (o := ⟨none, _, 0, _, _, _⟩) 36 (.tmp 4) (.tmp 22) rfl rfl w.heap.size zimg _ 36 rfl rfl Z1.out rfl (by kernel_rfl) (by simp [zimg, Value.oneCell']) ?_; intro wE hZE hCE) | go_step)
    refine bodyPost_ret (v := .tuple #[.agg zimg.toArray, .int .i64 6]) (results_blk2 (fn := Tryd.f15) (p := 4) (q := 5) (ty := 36) rfl _ w.heap.size _ 36 (.int .i64 6) rfl rfl hZE ⟨_, Tryd.underlying36, rfl⟩ (by kernel_rfl)) rfl ?_
    exact ⟨B2.out.trans (hCE.below B2.out.size (by simp)), rfl⟩
  | some e8 =>
    go_enter Tryd.func15, Tryd.ntmps15
    go_upto_region 3 with fail
    have hLk := LK.out
    rw [show (lookV (some e8)).toArray = #[.int .u32 (e8.x.job : Int), .int .u32 (e8.x.ver : Int), .int .i64 e8.x.credit, .slice (some ⟨e8.bb, e8.bo, none⟩) e8.x.blobs.length e8.bc, .slice (some ⟨e8.ab, e8.ao, none⟩) e8.x.at'.length e8.ac] from rfl] at hLk
    generalize (w.alloc (.cells #[.int .u32 0, .int .u32 0, .int .i64 0, .slice none 0 0] 36)) = w1 at B1 Z1 I1 hLk ⊢
    have c4 := I1.out.own.get 4 rfl
    clear LK
    go_upto_region 6 with fail
    have he : e8 ∈ E := List.mem_of_find?_eq_some HR.out
    have b2 := below_alloc w1 (.cells #[.int .u32 (e8.x.job : Int), .int .u32 (e8.x.ver : Int), .int .i64 e8.x.credit, .slice (some ⟨e8.bb, e8.bo, none⟩) e8.x.blobs.length e8.bc, .slice (some ⟨e8.ab, e8.ao, none⟩) e8.x.at'.length e8.ac] 100)
    have Z2 := hid (Z1.out.below b2)
    have B2 := hid (B1.out.trans (b2.mono B1.out.size))
    have HC := hid (copy2_calls _ Q e8.x _ _ _ ((I1.out.lists e8 he).1.below b2) (by have := (I1.out.ok e8 he).few; omega) (HSM.out e8.x (by rw [← I1.out.L]; exact List.mem_map.2 ⟨e8, he, rfl⟩)))
    obtain ⟨q6, hq6⟩ : ∃ q6, w1.heap.size = q6 := ⟨_, rfl⟩
    have x2 : Blk _ w1.heap.size #[.int .u32 (e8.x.job : Int), .int .u32 (e8.x.ver : Int), .int .i64 e8.x.credit, .slice (some ⟨e8.bb, e8.bo, none⟩) e8.x.blobs.length e8.bc, .slice (some ⟨e8.ab, e8.ao, none⟩) e8.x.at'.length e8.ac].toList 100 := blk_alloc w1 #[.int .u32 (e8.x.job : Int), .int .u32 (e8.x.ver : Int), .int .i64 e8.x.credit, .slice (some ⟨e8.bb, e8.bo, none⟩) e8.x.blobs.length e8.bc, .slice (some ⟨e8.ab, e8.ao, none⟩) e8.x.at'.length e8.ac].toList 100
    rw [hq6] at x2 ⊢
    have k0 := x2.get 0 rfl
    have k1 := x2.get 1 rfl
    have k2 := x2.get 2 rfl
    have k3 := x2.get 3 rfl
    clear b2 he x2 c4 hLk
    generalize (w1.alloc (.cells #[.int .u32 (e8.x.job : Int), .int .u32 (e8.x.ver : Int), .int .i64 e8.x.credit, .slice (some ⟨e8.bb, e8.bo, none⟩) e8.x.blobs.length e8.bc, .slice (some ⟨e8.ab, e8.ao, none⟩) e8.x.at'.length e8.ac] 100)) = w2 at B2 Z2 HC k0 k1 k2 k3 ⊢
    unfold imgV at HC
    repeat (first | (go_at_call 55; refine HC.out.mono ?_; rintro e w3 ⟨ts, bv, rfl, hts, htx, hb, hlo⟩; have LO := hid hlo; clear hlo; obtain ⟨a3, n3, c3, rfl, _, _, _⟩ := htx.rb.cs; have HTS := hid hts; have TX := hid htx; have B3 := hid hb; have Z3 := hid (Z2.out.below hb); clear hts htx hb; dsimp only) | (refine wpList_store_blk (o := ⟨none, _, 0, _, _, _⟩) 36 (.tmp 4) (.tmp 25) rfl rfl w.heap.size zimg (imgV e8.x (.slice a3 n3 c3)) 36 rfl rfl Z3.out rfl (by kernel_rfl) (by simp [imgV, Value.oneCell']) ?_; intro wE hZE hCE) | go_step)
    refine bodyPost_ret (v := .tuple #[.agg (imgV e8.x (.slice a3 n3 c3)).toArray, .int .i64 0]) (results_blk2 (fn := Tryd.f15) (p := 4) (q := 5) (ty := 36) rfl _ w.heap.size _ 36 (.int .i64 0) rfl rfl hZE ⟨_, Tryd.underlying36, rfl⟩ (by kernel_rfl)) rfl ?_
    have hlt := Z2.out.lt
    refine ⟨(B2.out.trans (B3.out.mono B2.out.size)).trans (hCE.below (Nat.le_trans B2.out.size B3.out.size) (by simp)), ts, _, rfl, HTS.out, ?_, LO.out.keep hCE (fun t ht x hx hm => by rw [List.mem_singleton] at hm; have := ((TX.out.tx t ht).2 x hx).1; omega)⟩
    exact (TX.out.keep hCE (by intro j hj; rw [List.mem_singleton] at hj; omega)).base B2.out.size
theorem get_calls (w : World) (B g c mb fg fd : Nat) (Q : Nat → Prop) (E : List Ent) (I : Im) (h : IsSto w B g c mb fg fd Q E I) (hsm : ∀ x ∈ I.L, ∀ b ∈ x.blobs, b.length ≤ 100000) (job : Nat) (hj : job < 4294967296) :
    Calls Tryd.prog 15 #[.pointer (some ⟨c, 0, none⟩), .int .u32 (job : Int)] w (GetTo w (findI I.L job)) := by
  refine (get2_calls w B g c mb fg fd Q E I h hsm job hj).mono fun e w' ht => ?_
  unfold GetTo2 at ht
  unfold GetTo
  refine ⟨ht.1, ?_⟩
  have h2 := ht.2
  split at h2
  · exact h2
  · obtain ⟨ts, bv, e1, h1, h3, _⟩ := h2
    exact ⟨ts, bv, e1, h1, h3⟩
end Go.Proofs.YtoapibbbooongaaDoor
