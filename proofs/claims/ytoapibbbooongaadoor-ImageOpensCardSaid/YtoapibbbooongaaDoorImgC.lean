/- The walks of layer 8: an image is written. -/
import Derived.Test.YtoapibbbooongaaDoorImgB
import Derived.Test.YtoapibbbooongaaDoorBlkB
import Derived.Test.YtoapibbbooongaaDoorSgOps
import Derived.StillTailTactics
namespace Go.Proofs.YtoapibbbooongaaDoor
open Go.RowKit Go.Quad _root_.Quad _root_.Quad.Slab

theorem wrBlobs_small (f e : Nat) (x : Img) (s : Sl) : ∀ k, (wrBlobs f e x s k).1.steps ≤ s.steps + k ∧ (wrBlobs f e x s k).1.way.length ≤ s.way.length + k
  | 0 => by simp [wrBlobs]
  | k + 1 => by
    have ih := wrBlobs_small f e x s k
    unfold wrBlobs
    split
    · omega
    · have := putB_small (wrBlobs f e x s k).1 ((f + x.at'.getD k 0 : Nat) : Int) (blobB e x k)
      omega
theorem AL.take {w : World} {Q : Nat → Prop} {a : Option Addr} {n c : Nat} {l : List Nat} (h : AL w Q (.slice a n c) l) (k : Nat) (hk : k ≤ l.length) : AL w Q (.slice a k c) (l.take k) := by
  obtain ⟨a', c', e, h1, h4⟩ := h
  cases e
  refine ⟨a, c, by rw [List.length_take, Nat.min_eq_left hk], ?_, h4⟩
  have := h1.take k
  have e : (l.flatMap aV).take k = (l.take k).flatMap aV := by
    have gen : ∀ (l : List Nat) (k : Nat), (l.flatMap aV).take k = (l.take k).flatMap aV := by
      intro l
      induction l with
      | nil => intro k; simp
      | cons x l ih =>
        intro k
        cases k with
        | zero => rfl
        | succ k => rw [List.flatMap_cons, List.take_succ_cons, List.flatMap_cons, ← ih k]; rfl
    exact gen l k
  rwa [e] at this
theorem wr_stop {f e : Nat} {x : Img} {s : Sl} {k : Nat} (h : (wrBlobs f e x s k).2 ≠ 0) : ∀ d, wrBlobs f e x s (k + d) = wrBlobs f e x s k
  | 0 => rfl
  | d + 1 => by
    show (if (wrBlobs f e x s (k + d)).2 ≠ 0 then wrBlobs f e x s (k + d) else putB (wrBlobs f e x s (k + d)).1 ((f + x.at'.getD (k + d) 0 : Nat) : Int) (blobB e x (k + d))) = _
    rw [wr_stop h d, if_pos h]
theorem write_stop {f e : Nat} {x : Img} {s : Sl} {k : Nat} (h : (wrBlobs f e x s k).2 ≠ 0) (hk : k ≤ x.blobs.length) : writeI f e x s = wrBlobs f e x s k := by
  have e1 : wrBlobs f e x s x.blobs.length = wrBlobs f e x s k := by
    have := wr_stop h (x.blobs.length - k)
    rwa [show k + (x.blobs.length - k) = x.blobs.length from by omega] at this
  unfold writeI
  rw [e1, thenS_stop h, thenS_stop h, thenS_stop h]
theorem wr_next {f e : Nat} {x : Img} {s : Sl} {k : Nat} (h : (wrBlobs f e x s k).2 = 0) : putB (wrBlobs f e x s k).1 ((f + x.at'.getD k 0 : Nat) : Int) (blobB e x k) = wrBlobs f e x s (k + 1) := by
  show _ = if (wrBlobs f e x s k).2 ≠ 0 then wrBlobs f e x s k else putB (wrBlobs f e x s k).1 ((f + x.at'.getD k 0 : Nat) : Int) (blobB e x k)
  rw [if_neg (by simpa using h)]
/-- so far, behind k blobs -/
def WrRel (w0 : World) (B g d q : Nat) (wv0 : Value) (I : Im) (x : Img) (bv : Value) (s : Sl) (iv : Value) (wr : World) : Prop :=
  ∃ k : Nat, iv = .int .i64 (k : Int) ∧ k ≤ x.blobs.length ∧ (wrBlobs I.from' I.epoch x s k).2 = 0 ∧ SG w0 B g d wv0 [q + 1, q] (wrBlobs I.from' I.epoch x s k).1 wr ∧ Blk wr q (imgV x bv) 36 ∧
    ∃ a n c, Blk wr (q + 1) [.int .u8 5, .int .u32 (I.epoch : Int), .int .u32 (x.job : Int), .int .u32 (x.ver : Int), .slice a n c] 96
set_option maxRecDepth 100000 in
set_option maxHeartbeats 4000000 in
theorem iwrite_calls (w : World) (B g d : Nat) (wv : Value) (c mb fg : Nat) (Q : Nat → Prop) (I : Im) (x : Img) (ba : Option Addr) (bn bc : Nat) (aa : Option Addr) (an ac : Nat) (hS : IsSlab w B g d wv I.sl) (hI : Blk w c (stoV g mb fg I) 94)
    (hB : BL w Q (.slice ba bn bc) x.blobs) (hA : AL w Q (.slice aa an ac) x.at') (hc : c ∉ slS g d wv) (hQ : ∀ k ∈ slS g d wv, ¬ Q k) (hx : x.In I.used.length) (hsm : ∀ b ∈ x.blobs, b.length ≤ 103) (hfr : I.from' + I.used.length ≤ 4096) (he : I.epoch < 4294967296)
    (hq : Laid w) (hB0 : 0 < B) (hs : I.sl.steps + 100 < 1000000) (hw : I.sl.way.length + 100 < 1000000) :
    Calls Tryd.prog 53 #[.pointer (some ⟨c, 0, none⟩), .agg (imgV x (.slice ba bn bc)).toArray, .slice aa an ac] w (SlabTo w B g d wv (writeI I.from' I.epoch x I.sl).1 (writeI I.from' I.epoch x I.sl).2) := by
  have c0 := hI.get 0 rfl
  have c1 := hI.get 1 rfl
  have c3 := hI.get 3 rfl
  have cc := hI.lt
  obtain rfl : bn = x.blobs.length := hB.len.1
  obtain rfl : an = x.at'.length := hA.len.1
  have hx16 : (x.blobs.length : Int) ≤ 16 := by have := hx.few.2; omega
  unfold imgV
  go_enter Tryd.func53, Tryd.ntmps53
  go_upto_region 3 with (go_region)
  obtain ⟨q, hqq⟩ : ∃ q, w.heap.size = q := ⟨_, rfl⟩
  have hb1 := below_alloc w (.cells #[.int .u32 (x.job : Int), .int .u32 (x.ver : Int), .int .i64 x.credit, .slice ba x.blobs.length bc] 36)
  have kq := blk_alloc w [.int .u32 (x.job : Int), .int .u32 (x.ver : Int), .int .i64 x.credit, .slice ba x.blobs.length bc] 36
  have s1 := (SG.start hS).more hb1 q ⟨by omega, by simp; omega⟩
  have z1 : (w.alloc (.cells #[.int .u32 (x.job : Int), .int .u32 (x.ver : Int), .int .i64 x.credit, .slice ba x.blobs.length bc] 36)).heap.size = q + 1 := by simp; omega
  generalize (w.alloc (.cells #[.int .u32 (x.job : Int), .int .u32 (x.ver : Int), .int .i64 x.credit, .slice ba x.blobs.length bc] 36)) = w1 at hb1 kq s1 z1 ⊢
  have hb2 := below_alloc w1 (.cells #[.int .u8 5, .int .u32 (I.epoch : Int), .int .u32 (x.job : Int), .int .u32 (x.ver : Int), .slice none 0 0] 96)
  have kb := blk_alloc w1 [.int .u8 5, .int .u32 (I.epoch : Int), .int .u32 (x.job : Int), .int .u32 (x.ver : Int), .slice none 0 0] 96
  have s2 := s1.more hb2 (q + 1) ⟨by omega, by simp; omega⟩
  have kq2 := kq.below hb2
  rw [z1] at kb
  rw [hqq] at kq2
  generalize (w1.alloc (.cells #[.int .u8 5, .int .u32 (I.epoch : Int), .int .u32 (x.job : Int), .int .u32 (x.ver : Int), .slice none 0 0] 96)) = w2 at hb2 kb s2 kq2 ⊢
  have R0 := hid (show WrRel w B g d q wv I x (.slice ba x.blobs.length bc) I.sl (.int .i64 0) w2.drew from ⟨0, rfl, Nat.zero_le _, rfl, s2.below (below_drew w2), kq2.below (below_drew w2), none, 0, 0, kb.below (below_drew w2)⟩)
  have k3 := (kq2.below (below_drew w2)).get 3 rfl
  generalize w2.drew = w3 at R0 k3 ⊢
  have HS := hid hS
  have HI := hid hI
  have HB := hid hB
  have HA := hid hA
  have HX := hid hx
  have HM := hid hsm
  have HC := hid hc
  have HQ := hid hQ
  have HL := hid hq
  have QQ := hid hqq
  have HE := hid he
  rw [hqq]
  clear hb1 kq s1 z1 hb2 kb s2 kq2 hS hI hB hA hx hsm hc hQ hq hqq c0 c1 c3 w1 w2 he
  go_wp2_with fail
  go_loopw [9, 10, 11, 29] (fun _ _ _ iv wr => WrRel w B g d q wv I x (.slice ba x.blobs.length bc) I.sl iv wr) (fun _ _ _ iv _ => x.blobs.length - (intOf iv).toNat)
  case atStart => exact R0.out
  case round =>
    obtain ⟨k, rfl, hk, hz, hsg, hkq, a0, n0, c0, hkb⟩ := hrel
    have HZ := hid hz
    have SGk := hid hsg
    have KQ := hid hkq
    have KB := hid hkb
    have HK := hid hk
    clear hz hsg hkq hkb
    by_cases hlt : k < x.blobs.length
    · have hlt' : (k : Int) < (x.blobs.length : Int) := by omega
      have hk16 : (k : Int) ≤ 16 := by have := HX.out.few.2; omega
      have hcg := SGk.out.chg
      obtain ⟨bb, bo, rfl, hqb, v, hcell, htx⟩ := (HB.out.keep hcg HQ.out (fun _ h => h)).at hlt
      obtain ⟨ta, tc, rfl, hbs, _⟩ := htx
      have HTX := hid hbs
      have hbl := hid (HM.out _ (show x.blobs.getD k [] ∈ x.blobs from by rw [getD_in hlt]; exact List.getElem_mem _))
      clear hbs hqb hcg
      obtain ⟨bk, hbk⟩ : ∃ bk, x.blobs.getD k [] = bk := ⟨_, rfl⟩
      rw [hbk] at HTX hbl
      obtain ⟨m, hm⟩ : ∃ m, bk.length = m := ⟨_, rfl⟩
      rw [hbk, hm] at hcell
      have HBK := hid hbk
      have HMM := hid hm
      clear hbk hm hk
      go_upto_region 6 with fail
      have klit : OB (wr.alloc (.cells #[.int .u8 (k : Int)] 5)) wr.heap.size 5 (.slice (some ⟨wr.heap.size, 0, none⟩) 1 1) [UInt8.ofNat k] := by
        rw [← u8v_of' k (by omega)]; exact OB.lit 5 [UInt8.ofNat k] (Nat.le_refl _) (by simp [maxLen])
      have KL := hid klit
      clear klit hcell
      go_upto_region 7 with (at_builtin; refine wpList_append_at (.tmp 36) (.tmp 37) 33 rfl rfl wr.heap.size 5 info_u8 under_bytes _ [UInt8.ofNat k] KL.out rfl (HTX.out.below (below_alloc wr _)) (by rw [HMM.out]; rfl) (by have := hbl.out; show 1 + bk.length ≤ _; omega) (below_alloc wr _).size ?_; intro v4 w4 ho4 hg4 hob4; have O4 := hid ho4; have B4 := hid ((below_alloc wr (.cells #[.int .u8 (k : Int)] 5)).trans (grownBy_below hg4 (below_alloc wr _).size fun j hj => (World.ownsRow.lt KL.out j hj).1)); obtain ⟨a4, p4, rfl, hbs4, hof4⟩ := ho4.bs; obtain ⟨n4, hn4⟩ : ∃ n4, ([UInt8.ofNat k] ++ bk).length = n4 := ⟨_, rfl⟩; rw [hn4]; have N4 := hid hn4; clear hn4; have T4 := hid (And.intro hbs4 hof4); clear ho4 hg4 hob4 hbs4 hof4; have K4 := hid (KB.out.below B4.out); have d4 := K4.out.get 4 rfl; have f4 := K4.out.free 4)
      have hb4 := B4.out.size
      have hql := KB.out.lt
      have kb5 := K4.out.set 4 (.slice a4 n4 p4)
      have kq5 := (KQ.out.below B4.out).keep (chg_setCell w4 (q + 1) 4 (.slice a4 n4 p4)) (by simp)
      have sg5 := (SGk.out.below B4.out).other (chg_setCell w4 (q + 1) 4 (.slice a4 n4 p4)) (fun j hj => by simp at hj; subst hj; exact ⟨by simp, by have := QQ.out; omega⟩)
      have t5 := bs_keep T4.out.1 (chg_setCell w4 (q + 1) 4 (.slice a4 n4 p4)) (.inr fun y hy hm => by have := (T4.out.2 y hy).2.2.1; simp at hm; omega)
      generalize (w4.setCell ⟨q + 1, 4, none⟩ (.slice a4 n4 p4)) = w5 at kb5 kq5 sg5 t5 ⊢
      have hcg := sg5.chg
      have I5 := HI.out.keep hcg HC.out
      have c0 := I5.get 0 rfl
      have c1 := I5.get 1 rfl
      have hka : k < x.at'.length := by have := HX.out.at'; omega
      obtain ⟨ab, ao, rfl, _, hpk⟩ := (HA.out.keep hcg HQ.out (fun _ h => h)).at hka
      have hpl : x.at'.getD k 0 < I.used.length := HX.out.inn _ (by rw [getD_in hka]; exact List.getElem_mem hka)
      obtain ⟨pk, hpkk⟩ : ∃ pk, x.at'.getD k 0 = pk := ⟨_, rfl⟩
      rw [hpkk] at hpk hpl
      have PK := hid hpkk
      have hf1 : (I.from' : Int) ≤ 4096 := by omega
      have hp1 : (pk : Int) ≤ 4096 := by omega
      have hka' : (k : Int) < (x.at'.length : Int) := by omega
      have e0 := kb5.get 0 rfl
      have e1 := kb5.get 1 rfl
      have e2 := kb5.get 2 rfl
      have e3 := kb5.get 3 rfl
      have e4 := kb5.get 4 rfl
      have KB5 := hid kb5
      have KQ5 := hid kq5
      have SG5 := hid sg5
      have T5 := hid t5
      clear kb5 kq5 sg5 t5 hcg I5 hka hpkk hpl K4 d4 f4 hb4 hql O4 T4 KL B4
      go_still_tail 14, (by kernel_rfl)
      change wpList _ _ _ _ _ w5.drew
      have bd := below_drew w5
      have hP := sg_put (SG5.out.below bd) ((I.from' + pk : Nat) : Int) a4 n4 p4 (blobB I.epoch x k) (by omega) ⟨by show 5 < 256; omega, HE.out, HX.out.job, HX.out.ver⟩ (by show BS _ _ _ (UInt8.ofNat k :: x.blobs.getD k []); rw [HBK.out]; exact T5.out.below bd) (by show (UInt8.ofNat k :: x.blobs.getD k []).length = n4; rw [HBK.out]; exact N4.out) ((SG5.out.below bd).laid HS.out HL.out hB0) (by have := (wrBlobs_small I.from' I.epoch x I.sl k).1; omega) (by have := (wrBlobs_small I.from' I.epoch x I.sl k).2; omega)
      rw [← PK.out, wr_next HZ.out, PK.out] at hP
      have HP := hid hP
      have KB6 := hid (KB5.out.below bd)
      have KQ6 := hid (KQ5.out.below bd)
      generalize w5.drew = w6 at HP KB6 KQ6 ⊢
      clear hP bd
      go_upto_region 8 with (go_at_call 90; refine (show Calls Tryd.prog 90 #[.pointer (some ⟨g, 0, none⟩), .int .i64 ((I.from' : Int) + (pk : Int)), .agg #[.int .u8 5, .int .u32 (I.epoch : Int), .int .u32 (x.job : Int), .int .u32 (x.ver : Int), .slice a4 n4 p4]] w6 _ from HP.out).mono ?_; rintro e w7 ⟨rfl, hsg7, hx7⟩; have SG7 := hid hsg7; have X7 := hid hx7; clear hsg7 hx7)
      have hl1 : k + 1 ≤ x.blobs.length := hlt
      obtain ⟨r, hr⟩ : ∃ r, (wrBlobs I.from' I.epoch x I.sl (k + 1)).2 = r := ⟨_, rfl⟩
      rw [hr]
      have HR := hid hr
      clear hr
      by_cases h0 : r = 0
      · subst h0
        have B67 := X7.out
        have kb7 : Blk w7 (q + 1) [.int .u8 5, .int .u32 (I.epoch : Int), .int .u32 (x.job : Int), .int .u32 (x.ver : Int), .slice a4 n4 p4] 96 := by
          have := KB6.out; unfold Blk at this ⊢; rw [B67 (q + 1) (by simp)]; exact this
        have kq7 : Blk w7 q (imgV x (.slice (some ⟨bb, bo, none⟩) x.blobs.length bc)) 36 := by
          have := KQ6.out; unfold Blk at this ⊢; rw [B67 q (by simp)]; exact this
        have R : WrRel w B g d q wv I x (.slice (some ⟨bb, bo, none⟩) x.blobs.length bc) I.sl (.int .i64 ((k : Int) + 1)) w7 := ⟨k + 1, rfl, hl1, HR.out, SG7.out, kq7, a4, n4, p4, kb7⟩
        clear B67 kb7 kq7
        go_wp2_with fail
        refine ⟨?_, by simp [intOf]; omega⟩
        first | exact R | ((repeat apply Exists.intro); refine ⟨R, ?_⟩; and_intros <;> rfl)
      · have h0' : ¬ ((r : Int) = 0) := by omega
        go_wp2_with fail
        go_ret
        rw [write_stop (k := k + 1) (by rw [HR.out]; exact h0) hl1, HR.out]
        exact SG7.out.out
    · have hlt' : ¬ ((k : Int) < (x.blobs.length : Int)) := by omega
      have hkn : k = x.blobs.length := by have := HK.out; omega
      have hfi := sg_flush SGk.out (by have := (wrBlobs_small I.from' I.epoch x I.sl k).1; have := HX.out.few.2; omega)
      obtain ⟨P1, hP1⟩ : ∃ P1, wrBlobs I.from' I.epoch x I.sl k = P1 := ⟨_, rfl⟩
      have HP1 := hid hP1
      have HKN := hid hkn
      rw [hP1] at hfi HZ SGk
      have HF := hid hfi
      have hw1a := wrBlobs_small I.from' I.epoch x I.sl k
      rw [hP1] at hw1a
      have hw1 := hid hw1a
      clear hw1a
      have hcg := SGk.out.chg
      have c0 := (HI.out.keep hcg HC.out).get 0 rfl
      clear hfi hP1 hkn hcg
      go_upto_region 12 with (go_at_call 65; refine HF.out.mono ?_; rintro e w7 ⟨rfl, hsg7, hx7⟩; have SG7 := hid hsg7; have X7 := hid hx7; clear hsg7 hx7)
      obtain ⟨r, hr⟩ : ∃ r, (flushL P1.1).2 = r := ⟨_, rfl⟩
      rw [hr]
      have HR := hid hr
      clear hr c0
      by_cases h0 : r = 0
      · subst h0
        go_upto_region 14 with fail
        obtain ⟨cr, hcr⟩ : ∃ cr : Nat, x.credit = (cr : Int) := ⟨x.credit.toNat, by have := HX.out.credit; omega⟩
        have kq7 : Blk w7 q (imgV x (.slice ba x.blobs.length bc)) 36 := by
          have := KQ.out; unfold Blk at this ⊢; rw [X7.out q (by simp)]; exact this
        have kb7 : Blk w7 (q + 1) [.int .u8 5, .int .u32 (I.epoch : Int), .int .u32 (x.job : Int), .int .u32 (x.ver : Int), .slice a0 n0 c0] 96 := by
          have := KB.out; unfold Blk at this ⊢; rw [X7.out (q + 1) (by simp)]; exact this
        have hcg := SG7.out.chg
        have ha7 := HA.out.keep hcg HQ.out (fun _ h => h)
        have hle : x.blobs.length ≤ x.at'.length := by have := HX.out.at'; omega
        have hle2 := ha7.len.2
        have A7 := hid (ha7.take x.blobs.length hle)
        have KB7 := hid kb7
        have CR := hid hcr
        have q0 := kq7.get 0 rfl
        have q1 := kq7.get 1 rfl
        have q2 := kq7.get 2 rfl
        have q3 := kq7.get 3 rfl
        have hcr2 : cr ≤ 10000 := by have := HX.out.credit; omega
        have hle3 : (x.blobs.length : Int) ≤ (ac : Int) := by omega
        rw [hcr] at q2
        clear ha7 kb7 hcg hcr
        go_region_with (go_at_call 91; refine (head_calls _ Q x.job x.ver cr ba x.blobs.length bc aa x.blobs.length ac (x.at'.take x.blobs.length) (A7.out.below (below_drewN (Below.refl _ _) _)) hcr2 HX.out.few.2 (by rw [List.length_take]; have := HX.out.few.2; omega) (fun i hi => by have := HX.out.inn i (List.mem_of_mem_take hi); omega)).mono ?_; rintro e w8 ⟨v8, rfl, ho8, hb8⟩; have K8 := hid (KB7.out.below ((below_drewN (Below.refl _ _) _).trans (hb8.mono (Nat.le_refl _)))); have d0 := K8.out.get 0 rfl; have f0 := K8.out.free 0; have d4 := K8.out.get 4 rfl; have f4 := K8.out.free 4; have O8 := hid (show OB w8 w7.heap.size 5 v8 (headL cr x.blobs.length (x.at'.take x.blobs.length)) from ho8); have B8 := hid (show Below w7.heap.size w7 w8 from (below_drewN (Below.refl _ _) _).trans (hb8.mono (Nat.le_refl _))); clear ho8 hb8; obtain ⟨a8, p8, rfl, hbs8, hof8⟩ := O8.out.bs; obtain ⟨n8, hn8⟩ : ∃ n8, (headL cr x.blobs.length (x.at'.take x.blobs.length)).length = n8 := ⟨_, rfl⟩; rw [hn8]; have N8 := hid hn8; clear hn8; have T8 := hid (And.intro hbs8 hof8); clear hbs8 hof8)
        have hb8 := B8.out.size
        have hql := KB7.out.lt
        have hcs : Chg [q + 1] w8 ((w8.setCell ⟨q + 1, 0, none⟩ (.int .u8 6)).setCell ⟨q + 1, 4, none⟩ (.slice a8 n8 p8)) := (chg_setCell w8 (q + 1) 0 (.int .u8 6)).trans (chg_setCell _ (q + 1) 4 _)
        have kb5 := (K8.out.set 0 (.int .u8 6)).set 4 (.slice a8 n8 p8)
        have sg5 := (SG7.out.below B8.out).other hcs (fun j hj => by simp at hj; subst hj; exact ⟨by simp, by have := QQ.out; omega⟩)
        have t5 := bs_keep T8.out.1 hcs (.inr fun y hy hm => by have := (T8.out.2 y hy).2.2.1; simp at hm; omega)
        generalize ((w8.setCell ⟨q + 1, 0, none⟩ (.int .u8 6)).setCell ⟨q + 1, 4, none⟩ (.slice a8 n8 p8)) = w5 at kb5 sg5 t5 ⊢
        clear hcs
        have hcg := sg5.chg
        have I5 := HI.out.keep hcg HC.out
        have c0 := I5.get 0 rfl
        have c1 := I5.get 1 rfl
        have hka : x.blobs.length < x.at'.length := by have := HX.out.at'; omega
        obtain ⟨ab, ao, rfl, _, hpk⟩ := (HA.out.keep hcg HQ.out (fun _ h => h)).at hka
        have hpl : x.at'.getD x.blobs.length 0 < I.used.length := HX.out.inn _ (by rw [getD_in hka]; exact List.getElem_mem hka)
        obtain ⟨pk, hpkk⟩ : ∃ pk, x.at'.getD x.blobs.length 0 = pk := ⟨_, rfl⟩
        rw [hpkk] at hpk hpl
        have PK := hid hpkk
        have hf1 : (I.from' : Int) ≤ 4096 := by omega
        have hp1 : (pk : Int) ≤ 4096 := by omega
        have hka' : (x.blobs.length : Int) < (x.at'.length : Int) := by omega
        have e0 := kb5.get 0 rfl
        have e1 := kb5.get 1 rfl
        have e2 := kb5.get 2 rfl
        have e3 := kb5.get 3 rfl
        have e4 := kb5.get 4 rfl
        have KB5 := hid kb5
        have SG5 := hid sg5
        have T5 := hid t5
        clear kb5 sg5 t5 hcg I5 hka hpkk hpl K8 d0 f0 d4 f4 hb8 hql O8 T8 B8 KB7 q0 q1 q2 q3
        go_upto_region 15 with fail
        go_still_tail 14, (by kernel_rfl)
        change wpList _ _ _ _ _ w5.drew
        have bd := below_drew w5
        have eh : headL cr x.blobs.length (x.at'.take x.blobs.length) = headD x x.blobs.length := by
          rw [← headL_head, CR.out, Int.toNat_natCast]
        have hst := (flushL_small P1.1)
        have hP := sg_put (SG5.out.below bd) ((I.from' + pk : Nat) : Int) a8 n8 p8 (headB' I.epoch x) (by omega) ⟨by show 6 < 256; omega, HE.out, HX.out.job, HX.out.ver⟩ (by show BS _ _ _ (headD x x.blobs.length); rw [← eh]; exact T5.out.below bd) (by show (headD x x.blobs.length).length = n8; rw [← eh]; exact N8.out) ((SG5.out.below bd).laid HS.out HL.out hB0) (by have := hw1.out.1; have := HX.out.few.2; have := HKN.out; omega) (by have := hw1.out.2; have := HX.out.few.2; have := HKN.out; omega)
        rw [← PK.out] at hP
        have hW1 : writeI I.from' I.epoch x I.sl = thenS (putB (flushL P1.1).1 ((I.from' + x.at'.getD x.blobs.length 0 : Nat) : Int) (headB' I.epoch x)) flushL := by
          unfold writeI
          rw [← HKN.out, HP1.out, thenS_go HZ.out, thenS_go HR.out]
        obtain ⟨P2, hP2⟩ : ∃ P2, putB (flushL P1.1).1 ((I.from' + x.at'.getD x.blobs.length 0 : Nat) : Int) (headB' I.epoch x) = P2 := ⟨_, rfl⟩
        have hst2 := putB_small (flushL P1.1).1 ((I.from' + x.at'.getD x.blobs.length 0 : Nat) : Int) (headB' I.epoch x)
        rw [hP2] at hP hW1 hst2
        rw [PK.out] at hP
        have HP := hid hP
        have HW1 := hid hW1
        have HST := hid (And.intro hst hst2)
        generalize w5.drew = w6 at HP ⊢
        clear hP bd hW1 hP2 eh hst hst2
        go_upto_region 16 with (go_at_call 90; refine (show Calls Tryd.prog 90 #[.pointer (some ⟨g, 0, none⟩), .int .i64 ((I.from' : Int) + (pk : Int)), .agg #[.int .u8 6, .int .u32 (I.epoch : Int), .int .u32 (x.job : Int), .int .u32 (x.ver : Int), .slice a8 n8 p8]] w6 _ from HP.out).mono ?_; rintro e w7 ⟨rfl, hsg7, hx7⟩; have SG9 := hid hsg7; clear hsg7 hx7)
        obtain ⟨r2, hr2⟩ : ∃ r2, P2.2 = r2 := ⟨_, rfl⟩
        rw [hr2]
        have HR2 := hid hr2
        clear hr2
        by_cases h2 : r2 = 0
        · subst h2
          go_upto_region 18 with fail
          have c9 := (HI.out.keep SG9.out.chg HC.out).get 0 rfl
          have hfl := sg_flush SG9.out (by have := hw1.out.1; have := HX.out.few.2; have := HKN.out; have := HST.out.1.1; have := HST.out.2.1; omega)
          have HF2 := hid hfl
          clear hfl
          go_wp2_with (go_at_call 65; refine HF2.out.mono ?_; rintro e w9 ⟨rfl, hsg9, hx9⟩; have SG10 := hid hsg9; clear hsg9 hx9)
          go_ret
          rw [HW1.out, thenS_go HR2.out]
          exact SG10.out.out
        · have h0' : ¬ ((r2 : Int) = 0) := by omega
          go_wp2_with fail
          go_ret
          rw [HW1.out, thenS_stop (by rw [HR2.out]; exact h2), HR2.out]
          exact SG9.out.out
      · have h0' : ¬ ((r : Int) = 0) := by omega
        go_wp2_with fail
        go_ret
        have hW : writeI I.from' I.epoch x I.sl = flushL P1.1 := by
          have hz : (flushL P1.1).2 ≠ 0 := by rw [HR.out]; exact h0
          unfold writeI
          rw [← HKN.out, HP1.out, thenS_go HZ.out, thenS_stop hz, thenS_stop hz]
        rw [hW, HR.out]
        exact SG7.out.out
end Go.Proofs.YtoapibbbooongaaDoor
