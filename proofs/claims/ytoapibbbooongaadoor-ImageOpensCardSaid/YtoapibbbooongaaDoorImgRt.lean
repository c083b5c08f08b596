/- The walks of layer 8: the document's image at a place. -/
import Derived.Test.YtoapibbbooongaaDoorImgRd
import Derived.Test.YtoapibbbooongaaDoorTxts
import Derived.RegionTactic
import Derived.BigRegion
import Derived.BigQuiet
namespace Go.Proofs.YtoapibbbooongaaDoor
open Go.RowKit Go.Quad _root_.Quad _root_.Quad.Slab

def zriL : List Value := [.int .u32 0, .int .u32 0, .int .i64 0, .slice none 0 0, .slice none 0 0]
theorem info_int8 : (Tryd.prog.info? 3).map (fun i => (i.zero, i.size, i.bytes)) = some (some (.int .i64 0), 1, 8) := by kernel_rfl
theorem under_ints8 : Tryd.prog.underlying 51 = some (.slice 3) := by kernel_rfl
def NewIn (n : Nat) (w : World) : Nat → Prop := fun k => n ≤ k ∧ k < w.heap.size
def ThereTo (w : World) (o : Option Img) (e : Ending) (w' : World) : Prop := Below w.heap.size w w' ∧ match o with
  | none => e = .returned (.tuple #[.agg zri, .bool false])
  | some x => ∃ r : RI, r.x = x ∧ e = .returned (.tuple #[.agg (riV r).toArray, .bool true]) ∧ BL w' (NewIn w.heap.size w') (.slice r.ba r.x.blobs.length r.bc) r.x.blobs ∧ AL w' (NewIn w.heap.size w') (.slice r.aa r.x.at'.length r.ac) r.x.at'
theorem there_no {w w' wE : World} {z : Nat} {o : Option Img} (h : o = none) (hb : Below w.heap.size w w') (hc : Chg [z] w' wE) (hz : w.heap.size ≤ z) : ThereTo w o (.returned (.tuple #[.agg zri, .bool false])) wE := by
  subst h
  exact ⟨hb.trans (hc.below hb.size fun k hk => by rw [List.mem_singleton] at hk; subst hk; exact hz), rfl⟩
theorem rblobsI_none {G : Nat → BlkD × Nat} {n : Nat} {h : BlkD} {k : Nat} (hk : blobsI G n h k = none) : ∀ d, blobsI G n h (k + d) = none
  | 0 => hk
  | d + 1 => by
    show (blobsI G n h (k + d)).bind _ = none
    rw [rblobsI_none hk d]
    rfl
theorem there_blob_no {G : Nat → BlkD × Nat} {n at' k : Nat} {h : BlkD} {l : List (List UInt8)} (hG : G at' = (h, 0)) (hk : blobsI G n h k = some l) (hb : blobI G n h (placeOf h.data k) k = none) (hkc : k < countOf h.data) : thereI G n at' = none := by
  have h1 : blobsI G n h (k + 1) = none := by
    show (blobsI G n h k).bind _ = none
    rw [hk]
    show (blobI G n h (placeOf h.data k) k).map _ = none
    rw [hb]
    rfl
  have h2 := rblobsI_none h1 (countOf h.data - (k + 1))
  rw [show k + 1 + (countOf h.data - (k + 1)) = countOf h.data from by omega] at h2
  unfold thereI imageI
  rw [hG, if_neg (by simp)]
  dsimp only
  split
  · rw [h2]; rfl
  · rfl
theorem blobI_no {G : Nat → BlkD × Nat} {n p k : Nat} {h x : BlkD} {e : Nat} (hG : G p = (x, e)) (hb : ¬ (e = 0 ∧ x.kind = 5 ∧ x.epoch = h.epoch ∧ x.a = h.a ∧ x.b = h.b ∧ x.data.length ≠ 0 ∧ (x.data.getD 0 0).toNat = k)) : blobI G n h p k = none := by
  unfold blobI
  split
  · rfl
  · rw [if_neg]
    intro hh
    unfold blobOk at hh
    rw [hG] at hh
    simp only [Bool.and_eq_true, decide_eq_true_eq] at hh
    exact hb hh
theorem blobI_yes {G : Nat → BlkD × Nat} {n p k : Nat} {h x : BlkD} {e : Nat} (hG : G p = (x, e)) (hn : p < n) (hb : e = 0 ∧ x.kind = 5 ∧ x.epoch = h.epoch ∧ x.a = h.a ∧ x.b = h.b ∧ x.data.length ≠ 0 ∧ (x.data.getD 0 0).toNat = k) : blobI G n h p k = some (x.data.drop 1) := by
  unfold blobI
  rw [if_neg (by omega), if_pos, hG]
  unfold blobOk
  rw [hG]
  simp only [Bool.and_eq_true, decide_eq_true_eq]
  exact hb
theorem bs_tail {w : World} {b p m : Nat} {l : List UInt8} (h : BS w (some ⟨b, 0, none⟩) p l) (hl : l.length = m) (h1 : 1 ≤ m) : BS w (if p = 1 then some ⟨b, 0, none⟩ else some ⟨b, 1, none⟩) (p - 1) (l.drop 1) ∧ ∀ x, (if p = 1 then some (⟨b, 0, none⟩ : Addr) else some ⟨b, 1, none⟩) = some x → x.block = b := by
  refine ⟨?_, fun x hx => by split at hx <;> cases hx <;> rfl⟩
  have hf := h.fit'
  have := CS.cut h 1 (by omega) (by decide)
  rw [Nat.one_mul] at this
  unfold BS
  rw [List.map_drop]
  exact this
/-- the blobs that are there so far -/
def TtRel (w6 w7 : World) (q : Nat) (G : Nat → BlkD × Nat) (n : Nat) (h : BlkD) (CR D4 : Nat) (kv : Value) (wr : World) : Prop :=
  ∃ (k : Nat) (ts : List TS) (bv av : Value), kv = .int .i64 (k : Int) ∧ k ≤ D4 ∧ blobsI G n h k = some (ts.map TS.p) ∧ Blk wr q [.int .u32 (h.a : Int), .int .u32 (h.b : Int), .int .i64 (CR : Int), bv, av] 53 ∧ Below w6.heap.size w6 wr ∧ Texts w7 wr ts bv ∧ RO aV 1 wr w7.heap.size 3 av ((List.range k).map (placeOf h.data)) ∧ (∀ x, TsX ts bv x → av.ownBlock ≠ some x) ∧ w7.heap.size ≤ wr.heap.size
/-- the image under way where it lies -/
structure TtAt (w6 w7 : World) (q a b CR : Nat) (ts : List TS) (bv av : Value) (l : List Nat) (w : World) : Prop where
  blk : Blk w q [.int .u32 (a : Int), .int .u32 (b : Int), .int .i64 (CR : Int), bv, av] 53
  bel : Below w6.heap.size w6 w
  tx : Texts w7 w ts bv
  ra : RO aV 1 w w7.heap.size 3 av l
  no : ∀ x, TsX ts bv x → av.ownBlock ≠ some x
  sz : w7.heap.size ≤ w.heap.size
theorem TtAt.place {w6 w7 w w1 w2 : World} {q a b CR : Nat} {ts : List TS} {bv av v' : Value} {l : List Nat} (h : TtAt w6 w7 q a b CR ts bv av l w) (hq6 : w6.heap.size ≤ q) (hq7 : q < w7.heap.size) (_h67 : w6.heap.size ≤ w7.heap.size) (hb : Below w.heap.size w w1) {l' : List Nat}
    (ho : RO aV 1 w2 w7.heap.size 3 v' l') (hg : w1.grownBy w2 av.ownBlock) (hv : v'.ownBlock = av.ownBlock ∨ v'.ownBlock = some w1.heap.size) : TtAt w6 w7 q a b CR ts bv v' l' (w2.setCell ⟨q, 4, none⟩ v') := by
  have hav := h.ra.ownBlock
  have hc : Chg av.ownBlock.toList w w2 := (Chg.of_below _ hb).trans (chg_grown hg)
  have hc3 := chg_setCell w2 q 4 v'
  have hcc : Chg (q :: av.ownBlock.toList) w (w2.setCell ⟨q, 4, none⟩ v') := (hc.mono fun x hx => .inl (List.mem_cons_of_mem _ hx)).trans (hc3.mono fun x hx => .inl (by rw [List.mem_singleton] at hx; subst hx; simp))
  have hsz := h.sz
  have s1 := hb.size
  refine ⟨?_, ?_, ?_, ?_, fun x hx e => ?_, Nat.le_trans h.sz hcc.size⟩
  · exact (h.blk.keep hc (fun hm => by have := hav q (by simpa using hm); omega)).set 4 v'
  · refine h.bel.trans (hcc.below h.bel.size fun x hx => ?_)
    rcases List.mem_cons.1 hx with rfl | hx
    · exact hq6
    · have := hav x (by simpa using hx); omega
  · refine h.tx.chg hcc fun x hx hT => ?_
    rcases List.mem_cons.1 hx with rfl | hx
    · have := (h.tx.lt _ hT).1; omega
    · exact h.no x hT (by simpa using hx)
  · exact ho.chg hc3 (fun x hx hm => by rw [List.mem_singleton] at hm; subst hm; have := (ho.ownBlock _ hx).1; omega)
  · rcases hv with hv | hv
    · exact h.no x hx (hv ▸ e)
    · rw [hv] at e; simp only [Option.some.injEq] at e; have := (h.tx.lt _ hx).2; omega
set_option maxRecDepth 100000 in
set_option maxHeartbeats 20000000 in
theorem rthere_calls (w : World) (Fp : Nat → Prop) (B g dn dc : Nat) (wv : Value) (s : Sl) (f n at' : Nat) (h : IsRf w Fp B g dn dc wv s) (hf : f ≤ 4096) (hn : n ≤ 4096) (ha : at' < n) :
    Calls Tryd.prog 59 #[.pointer (some ⟨g, 0, none⟩), .int .i64 (f : Int), .int .i64 (n : Int), .int .i64 (at' : Int)] w (ThereTo w (thereI (seeG s f) n at')) := by
  have b1 := below_alloc w (.cells zri 53)
  have k1 : Blk (w.alloc (.cells zri 53)) w.heap.size zriL 53 := blk_alloc w zriL 53
  obtain ⟨z, hz⟩ : ∃ z, w.heap.size = z := ⟨_, rfl⟩
  rw [hz] at k1
  have HZ := hid hz
  have B1 := hid b1
  have K1 := hid k1
  have H1 := hid (h.below b1)
  have hf' : (f : Int) ≤ 4096 := by omega
  have hn' : (n : Int) ≤ 4096 := by omega
  have ha' : (at' : Int) ≤ 4096 := by omega
  clear h b1 k1 hz
  go_enter Tryd.func59, Tryd.ntmps59
  go_upto_region 1 with fail
  rw [HZ.out]
  change Code.wp _ _ _ _ (w.alloc (.cells zri 53))
  generalize (w.alloc (.cells zri 53)) = w1 at B1 K1 H1 ⊢
  have CG := hid (show Calls Tryd.prog 92 #[.pointer (some ⟨g, 0, none⟩), .int .i64 ((f : Int) + (at' : Int))] w1 (BGetTo w1 (seeG s f at')) from by
    rw [show ((f : Int) + (at' : Int)) = ((f + at' : Nat) : Int) from by omega]
    exact rbget_calls w1 Fp B g dn dc wv s _ H1.out (by omega))
  obtain ⟨rr, hrr⟩ : ∃ rr, seeG s f at' = rr := ⟨_, rfl⟩
  have HRR := hid hrr
  rw [hrr] at CG
  clear hrr
  obtain ⟨⟨kd, ep, ba, bb, dat⟩, er⟩ := rr
  go_upto_region 2 with (go_at_call 92; go_must (refine CG.out.mono ?_; rintro e w4 ⟨a, m, cp, rfl, hm, hO, hb⟩; dsimp only at hm hO ⊢; have HM := hid hm; have HBS := hid (show BS w4 a cp dat from hO.bsN); have HB4 := hid hb; clear hm hO hb))
  have hb5 := below_alloc w4 (.cells #[.int .u8 (kd : Int), .int .u32 (ep : Int), .int .u32 (ba : Int), .int .u32 (bb : Int), .slice a m cp] 167)
  have k5 : Blk (w4.alloc (.cells #[.int .u8 (kd : Int), .int .u32 (ep : Int), .int .u32 (ba : Int), .int .u32 (bb : Int), .slice a m cp] 167)) w4.heap.size [.int .u8 (kd : Int), .int .u32 (ep : Int), .int .u32 (ba : Int), .int .u32 (bb : Int), .slice a m cp] 167 := blk_alloc w4 _ _
  obtain ⟨y, hy⟩ : ∃ y, w4.heap.size = y := ⟨_, rfl⟩
  have HB15v := hid (HB4.out.trans (hb5.mono HB4.out.size))
  have HB5 := hid ((B1.out.trans (HB4.out.mono B1.out.size)).trans (hb5.mono (Nat.le_trans B1.out.size HB4.out.size)))
  have BS5 := hid (HBS.out.below hb5)
  have Z5 := hid ((K1.out.below HB4.out).below hb5)
  rw [hy] at k5 ⊢
  have K5 := hid k5
  clear hb5 k5 hy CG
  generalize (w4.alloc (.cells #[.int .u8 (kd : Int), .int .u32 (ep : Int), .int .u32 (ba : Int), .int .u32 (bb : Int), .slice a m cp] 167)) = w5 at HB5 BS5 K5 Z5 HB15v ⊢
  have HB15 := hid (show Below w1.heap.size w1 w5 from HB15v.out)
  have HZW := hid (show w.heap.size ≤ z from Nat.le_of_eq HZ.out)
  have y0 := K5.out.get 0 rfl
  have y2 := K5.out.get 2 rfl
  have y3 := K5.out.get 3 rfl
  have y4 := K5.out.get 4 rfl
  have hdl : dat.length = m := HM.out
  by_cases e0 : er = 0
  case neg =>
    have e0' : ((er : Int) != 0) = true := by rw [bne_iff_ne]; omega
    have HNO := hid (show thereI (seeG s f) n at' = none from by unfold thereI; rw [HRR.out, if_pos (by simpa using e0)])
    go_upto_region 3 with fail
    go_step
    repeat (first | (refine wpList_store_blk (o := ⟨none, _, 0, _, _, _⟩) 53 (.tmp 8) (.tmp 46) rfl rfl z zriL zriL 53 rfl rfl Z5.out rfl (by kernel_rfl) (by simp [zriL, Value.oneCell']) ?_; intro wE hZE hCE) | go_step)
    refine bodyPost_ret (v := .tuple #[.agg zri, .bool false]) (results_blk2 (fn := Tryd.f59) (p := 8) (q := 9) (ty := 53) rfl _ z zriL 53 (.bool false) rfl rfl hZE ⟨_, Tryd.underlying53, rfl⟩ (by kernel_rfl)) rfl ?_
    exact there_no HNO.out HB5.out hCE HZW.out
  subst e0
  by_cases e1 : kd = 6
  case neg =>
    have e1' : ((kd : Int) != 6) = true := by rw [bne_iff_ne]; omega
    have HNO := hid (show thereI (seeG s f) n at' = none from by unfold thereI imageI headOk; rw [HRR.out]; simp [e1])
    go_upto_region 3 with fail
    go_step
    repeat (first | (refine wpList_store_blk (o := ⟨none, _, 0, _, _, _⟩) 53 (.tmp 8) (.tmp 46) rfl rfl z zriL zriL 53 rfl rfl Z5.out rfl (by kernel_rfl) (by simp [zriL, Value.oneCell']) ?_; intro wE hZE hCE) | go_step)
    refine bodyPost_ret (v := .tuple #[.agg zri, .bool false]) (results_blk2 (fn := Tryd.f59) (p := 8) (q := 9) (ty := 53) rfl _ z zriL 53 (.bool false) rfl rfl hZE ⟨_, Tryd.underlying53, rfl⟩ (by kernel_rfl)) rfl ?_
    exact there_no HNO.out HB5.out hCE HZW.out
  subst e1
  by_cases e2 : ba ≠ 0
  case neg =>
    have e2' : ((ba : Int) == 0) = true := by rw [show ba = 0 from by omega]; rfl
    have HNO := hid (show thereI (seeG s f) n at' = none from by unfold thereI imageI headOk; rw [HRR.out]; simp [e2])
    go_upto_region 3 with fail
    go_step
    repeat (first | (refine wpList_store_blk (o := ⟨none, _, 0, _, _, _⟩) 53 (.tmp 8) (.tmp 46) rfl rfl z zriL zriL 53 rfl rfl Z5.out rfl (by kernel_rfl) (by simp [zriL, Value.oneCell']) ?_; intro wE hZE hCE) | go_step)
    refine bodyPost_ret (v := .tuple #[.agg zri, .bool false]) (results_blk2 (fn := Tryd.f59) (p := 8) (q := 9) (ty := 53) rfl _ z zriL 53 (.bool false) rfl rfl hZE ⟨_, Tryd.underlying53, rfl⟩ (by kernel_rfl)) rfl ?_
    exact there_no HNO.out HB5.out hCE HZW.out
  have e2' : ((ba : Int) == 0) = false := by rw [beq_eq_false_iff_ne]; omega
  by_cases e3 : 5 ≤ m
  case neg =>
    have e3' : (m : Int) < 5 := by omega
    have HNO := hid (show thereI (seeG s f) n at' = none from by unfold thereI imageI headOk; rw [HRR.out]; simp [show ¬ 5 ≤ dat.length from by omega])
    go_upto_region 3 with fail
    go_step
    repeat (first | (refine wpList_store_blk (o := ⟨none, _, 0, _, _, _⟩) 53 (.tmp 8) (.tmp 46) rfl rfl z zriL zriL 53 rfl rfl Z5.out rfl (by kernel_rfl) (by simp [zriL, Value.oneCell']) ?_; intro wE hZE hCE) | go_step)
    refine bodyPost_ret (v := .tuple #[.agg zri, .bool false]) (results_blk2 (fn := Tryd.f59) (p := 8) (q := 9) (ty := 53) rfl _ z zriL 53 (.bool false) rfl rfl hZE ⟨_, Tryd.underlying53, rfl⟩ (by kernel_rfl)) rfl ?_
    exact there_no HNO.out HB5.out hCE HZW.out
  have e3' : ¬ ((m : Int) < 5) := by omega
  obtain ⟨b, off, rfl, hbb⟩ := CS.at BS5.out (by simp; omega)
  obtain ⟨D0, hD0⟩ : ∃ D, (dat.getD 0 0).toNat = D := ⟨_, rfl⟩
  obtain ⟨D1, hD1⟩ : ∃ D, (dat.getD 1 0).toNat = D := ⟨_, rfl⟩
  obtain ⟨D2, hD2⟩ : ∃ D, (dat.getD 2 0).toNat = D := ⟨_, rfl⟩
  obtain ⟨D3, hD3⟩ : ∃ D, (dat.getD 3 0).toNat = D := ⟨_, rfl⟩
  obtain ⟨D4, hD4⟩ : ∃ D, (dat.getD 4 0).toNat = D := ⟨_, rfl⟩
  have bcell : ∀ i, i < m → w5.cell? ⟨b, off + i, none⟩ = some (.int .u8 ((dat.getD i 0).toNat : Int)) := fun i hi => by
    have h := hbb i (u8v (dat.getD i 0)) (by rw [List.getElem?_map, List.getElem?_eq_getElem (by omega), List.getD_eq_getElem?_getD, List.getElem?_eq_getElem (by omega)]; rfl)
    exact h
  have BC := hid bcell
  have x0 := bcell 0 (by omega)
  have x1 := bcell 1 (by omega)
  have x2 := bcell 2 (by omega)
  have x3 := bcell 3 (by omega)
  have x4 := bcell 4 (by omega)
  rw [hD0] at x0
  rw [hD1] at x1
  rw [hD2] at x2
  rw [hD3] at x3
  rw [hD4] at x4
  rw [Nat.add_zero] at x0
  have l0 : (D0 : Int) ≤ 255 := by rw [← hD0]; have := (dat.getD 0 0).toNat_lt; omega
  have l1 : (D1 : Int) ≤ 255 := by rw [← hD1]; have := (dat.getD 1 0).toNat_lt; omega
  have l2 : (D2 : Int) ≤ 255 := by rw [← hD2]; have := (dat.getD 2 0).toNat_lt; omega
  have l3 : (D3 : Int) ≤ 255 := by rw [← hD3]; have := (dat.getD 3 0).toNat_lt; omega
  have l4 : (D4 : Int) ≤ 255 := by rw [← hD4]; have := (dat.getD 4 0).toNat_lt; omega
  have HCR := hid (show creditOf dat = D0 + 256 * D1 + 65536 * D2 + 16777216 * D3 from by unfold creditOf; rw [hD0, hD1, hD2, hD3])
  have HCO := hid (show countOf dat = D4 from hD4)
  clear bcell hbb hD0 hD1 hD2 hD3 hD4
  have he3 : (5 : Int) ≤ (m : Int) := by omega
  have hmcp : (m : Int) ≤ (cp : Int) := by have := BS5.out.fit'; omega
  go_upto_region 5 with fail
  clear y0 y2 y3
  go_quiet (fail)
  have bq := below_drewN (Below.refl w5.heap.size w5) nq
  have HB6 := hid (HB5.out.trans (bq.mono HB5.out.size))
  have HB1w := hid (HB15.out.trans (bq.mono HB15.out.size))
  have K6 := hid (K5.out.below bq)
  have Z6 := hid (Z5.out.below bq)
  have BS6 := hid (BS5.out.below bq)
  have BC6 := hid (show ∀ i, i < m → (w5.drewN nq).cell? ⟨b, off + i, none⟩ = some (.int .u8 ((dat.getD i 0).toNat : Int)) from fun i hi => (bq.cell (World.block_lt_of_cell? w5 ⟨b, off + i, none⟩ (BC.out i hi))).trans (BC.out i hi))
  have hx4 := BC6.out 4 (by omega)
  rw [show (dat.getD 4 0).toNat = D4 from HCO.out] at hx4
  obtain ⟨CR, hCR⟩ : ∃ CR, creditOf dat = CR := ⟨_, rfl⟩
  have hCI : ((D0 : Int) + 256 * (D1 : Int) + 65536 * (D2 : Int) + 16777216 * (D3 : Int)) = (CR : Int) := by have := HCR.out; omega
  have hCb : (CR : Int) ≤ 4294967295 := by omega
  have HCRE := hid hCR
  rw [hCI]
  clear x0 x1 x2 x3 x4 y4 hCI hCR bq l0 l1 l2 l3
  generalize w5.drewN nq = w6 at HB6 K6 Z6 BS6 BC6 HB1w hx4 ⊢
  go_upto_region 7 with fail
  clear hx4
  by_cases e4 : CR ≤ 10000
  case neg =>
    have e4' : (10000 : Int) < (CR : Int) := by omega
    have HNO := hid (show thereI (seeG s f) n at' = none from by unfold thereI imageI headOk; rw [HRR.out]; simp [HCRE.out, show ¬ CR ≤ 10000 from e4])
    go_upto_region 8 with fail
    go_step
    repeat (first | (refine wpList_store_blk (o := ⟨none, _, 0, _, _, _⟩) 53 (.tmp 8) (.tmp 93) rfl rfl z zriL zriL 53 rfl rfl Z6.out rfl (by kernel_rfl) (by simp [zriL, Value.oneCell']) ?_; intro wE hZE hCE) | go_step)
    refine bodyPost_ret (v := .tuple #[.agg zri, .bool false]) (results_blk2 (fn := Tryd.f59) (p := 8) (q := 9) (ty := 53) rfl _ z zriL 53 (.bool false) rfl rfl hZE ⟨_, Tryd.underlying53, rfl⟩ (by kernel_rfl)) rfl ?_
    exact there_no HNO.out HB6.out hCE HZW.out
  have e4' : ¬ ((10000 : Int) < (CR : Int)) := by omega
  by_cases e5 : 1 ≤ D4
  case neg =>
    have e5' : (D4 : Int) < 1 := by omega
    have HNO := hid (show thereI (seeG s f) n at' = none from by unfold thereI imageI headOk; rw [HRR.out]; simp [HCRE.out, HCO.out, show ¬ 1 ≤ D4 from e5])
    go_upto_region 8 with fail
    go_step
    repeat (first | (refine wpList_store_blk (o := ⟨none, _, 0, _, _, _⟩) 53 (.tmp 8) (.tmp 93) rfl rfl z zriL zriL 53 rfl rfl Z6.out rfl (by kernel_rfl) (by simp [zriL, Value.oneCell']) ?_; intro wE hZE hCE) | go_step)
    refine bodyPost_ret (v := .tuple #[.agg zri, .bool false]) (results_blk2 (fn := Tryd.f59) (p := 8) (q := 9) (ty := 53) rfl _ z zriL 53 (.bool false) rfl rfl hZE ⟨_, Tryd.underlying53, rfl⟩ (by kernel_rfl)) rfl ?_
    exact there_no HNO.out HB6.out hCE HZW.out
  have e5' : ¬ ((D4 : Int) < 1) := by omega
  by_cases e6 : D4 ≤ 16
  case neg =>
    have e6' : (16 : Int) < (D4 : Int) := by omega
    have HNO := hid (show thereI (seeG s f) n at' = none from by unfold thereI imageI headOk; rw [HRR.out]; simp [HCRE.out, HCO.out, show ¬ D4 ≤ 16 from e6])
    go_upto_region 8 with fail
    go_step
    repeat (first | (refine wpList_store_blk (o := ⟨none, _, 0, _, _, _⟩) 53 (.tmp 8) (.tmp 93) rfl rfl z zriL zriL 53 rfl rfl Z6.out rfl (by kernel_rfl) (by simp [zriL, Value.oneCell']) ?_; intro wE hZE hCE) | go_step)
    refine bodyPost_ret (v := .tuple #[.agg zri, .bool false]) (results_blk2 (fn := Tryd.f59) (p := 8) (q := 9) (ty := 53) rfl _ z zriL 53 (.bool false) rfl rfl hZE ⟨_, Tryd.underlying53, rfl⟩ (by kernel_rfl)) rfl ?_
    exact there_no HNO.out HB6.out hCE HZW.out
  have e6' : ¬ ((16 : Int) < (D4 : Int)) := by omega
  by_cases e7 : m = 5 + 2 * D4
  case neg =>
    have e7' : ((m : Int) != 5 + 2 * (D4 : Int)) = true := by rw [bne_iff_ne]; omega
    have HNO := hid (show thereI (seeG s f) n at' = none from by unfold thereI imageI headOk; rw [HRR.out]; simp [HCRE.out, HCO.out, hdl, show ¬ m = 5 + 2 * D4 from e7])
    go_upto_region 8 with fail
    go_step
    repeat (first | (refine wpList_store_blk (o := ⟨none, _, 0, _, _, _⟩) 53 (.tmp 8) (.tmp 93) rfl rfl z zriL zriL 53 rfl rfl Z6.out rfl (by kernel_rfl) (by simp [zriL, Value.oneCell']) ?_; intro wE hZE hCE) | go_step)
    refine bodyPost_ret (v := .tuple #[.agg zri, .bool false]) (results_blk2 (fn := Tryd.f59) (p := 8) (q := 9) (ty := 53) rfl _ z zriL 53 (.bool false) rfl rfl hZE ⟨_, Tryd.underlying53, rfl⟩ (by kernel_rfl)) rfl ?_
    exact there_no HNO.out HB6.out hCE HZW.out
  have e7' : ((m : Int) != 5 + 2 * (D4 : Int)) = false := by rw [bne_eq_false_iff_eq]; omega
  have y2 := K6.out.get 2 rfl
  have y3 := K6.out.get 3 rfl
  have HOKH := hid (show headOk ⟨6, ep, ba, bb, dat⟩ = true from by
    unfold headOk
    simp only [HCRE.out, HCO.out, hdl]
    simp
    omega)
  go_upto_region 10 with fail
  have b7 := below_alloc w6 (.cells #[.int .u32 (ba : Int), .int .u32 (bb : Int), .int .i64 (CR : Int), .slice none 0 0, .slice none 0 0] 53)
  have q7 := blk_alloc w6 [.int .u32 (ba : Int), .int .u32 (bb : Int), .int .i64 (CR : Int), .slice none 0 0, .slice none 0 0] 53
  obtain ⟨q, hq⟩ : ∃ q, w6.heap.size = q := ⟨_, rfl⟩
  have HQ := hid hq
  rw [hq] at q7 ⊢
  have B7 := hid b7
  have Q7 := hid q7
  clear b7 q7 hq
  generalize (w6.alloc (.cells #[.int .u32 (ba : Int), .int .u32 (bb : Int), .int .i64 (CR : Int), .slice none 0 0, .slice none 0 0] 53)) = w7 at B7 Q7 ⊢
  have R0 := hid (show TtRel w6 w7 q (seeG s f) n ⟨6, ep, ba, bb, dat⟩ CR D4 (.int .i64 0) w7 from ⟨0, [], .slice none 0 0, .slice none 0 0, rfl, Nat.zero_le _, rfl, Q7.out, B7.out, ⟨RO.nil _ _ _ _ _, by simp⟩, RO.nil _ _ _ _ _, by simp [Value.ownBlock], Nat.le_refl _⟩)
  go_wp2_with fail
  go_loopw [16, 17, 18, 19, 101] (fun _ _ _ _ kv wr => TtRel w6 w7 q (seeG s f) n ⟨6, ep, ba, bb, dat⟩ CR D4 kv wr) (fun _ _ _ _ kv _ => D4 - (intOf kv).toNat)
  case atStart => exact R0.out
  case round =>
    clear R0 y2 y3 e4' e5' e7'
    obtain ⟨k, ts, bv, av, rfl, hk, hbl, hqb, hbe, htx, hro, hno, hsz⟩ := hrel
    have BL := hid hbl
    have QB := hid hqb
    have BE := hid hbe
    have TX := hid htx
    have RA := hid hro
    have NO := hid hno
    have SZ := hid hsz
    obtain ⟨va, vn, vc, rfl, _, _, _⟩ := htx.rb.cs
    obtain ⟨ua, un, uc, rfl, _, _, _⟩ := hro.cs
    clear hbl hqb hbe htx hro hno hsz
    by_cases hlt : k < D4
    · have hlt' : (k : Int) < (D4 : Int) := by omega
      have hk16 : (k : Int) ≤ 15 := by omega
      obtain ⟨P0, hP0⟩ : ∃ D, (dat.getD (5 + 2 * k) 0).toNat = D := ⟨_, rfl⟩
      obtain ⟨P1, hP1⟩ : ∃ D, (dat.getD (6 + 2 * k) 0).toNat = D := ⟨_, rfl⟩
      have x0 := (BE.out.cell (World.block_lt_of_cell? w6 ⟨b, off + (5 + 2 * k), none⟩ (BC6.out (5 + 2 * k) (by omega)))).trans (BC6.out (5 + 2 * k) (by omega))
      have x1 := (BE.out.cell (World.block_lt_of_cell? w6 ⟨b, off + (6 + 2 * k), none⟩ (BC6.out (6 + 2 * k) (by omega)))).trans (BC6.out (6 + 2 * k) (by omega))
      rw [hP0] at x0
      rw [hP1] at x1
      have l0 : (P0 : Int) ≤ 255 := by rw [← hP0]; have := (dat.getD (5 + 2 * k) 0).toNat_lt; omega
      have l1 : (P1 : Int) ≤ 255 := by rw [← hP1]; have := (dat.getD (6 + 2 * k) 0).toNat_lt; omega
      obtain ⟨PL, hPL⟩ : ∃ PL, placeOf dat k = PL := ⟨_, rfl⟩
      have hPI : ((P0 : Int) + 256 * (P1 : Int)) = (PL : Int) := by
        rw [← hPL]
        unfold placeOf
        rw [hP0, show 5 + 2 * k + 1 = 6 + 2 * k from by omega, hP1]
        omega
      have HPL := hid hPL
      have hib : (6 : Int) + 2 * (k : Int) < (m : Int) := by omega
      clear hP0 hP1 hPL
      go_upto_region 13 with fail
      go_quiet (fail)
      have bq := below_drewN (Below.refl wr.heap.size wr) nq
      have BE8 := hid (BE.out.trans (bq.mono BE.out.size))
      have QB8 := hid (QB.out.below bq)
      have TX8 := hid (TX.out.below bq)
      have RA8 := hid (RA.out.chg (Chg.of_below [] bq) (by simp))
      have SZ8 := hid (Nat.le_trans SZ.out bq.size)
      clear bq x0 x1 l0 l1 hPI hib
      generalize wr.drewN nq = w8 at BE8 QB8 TX8 RA8 SZ8 ⊢
      have HBw8 := hid (HB6.out.trans (BE8.out.mono HB6.out.size))
      have Z8 := hid (Z6.out.below BE8.out)
      have HB8 := HBw8
      go_upto_region 14 with fail
      by_cases hpl : PL < n
      case neg =>
        have hpl' : (n : Int) ≤ (PL : Int) := by omega
        have HNO := hid (show thereI (seeG s f) n at' = none from by exact there_blob_no HRR.out BL.out (by show blobI _ n _ (placeOf dat k) k = none; rw [HPL.out]; unfold blobI; rw [if_pos (by omega)]) (by show k < countOf dat; rw [HCO.out]; exact hlt))
        go_upto_region 15 with fail
        go_step
        repeat (first | (refine wpList_store_blk (o := ⟨none, _, 0, _, _, _⟩) 53 (.tmp 8) (.tmp 123) rfl rfl z zriL zriL 53 rfl rfl Z8.out rfl (by kernel_rfl) (by simp [zriL, Value.oneCell']) ?_; intro wE hZE hCE) | go_step)
        refine bodyPost_ret (v := .tuple #[.agg zri, .bool false]) (results_blk2 (fn := Tryd.f59) (p := 8) (q := 9) (ty := 53) rfl _ z zriL 53 (.bool false) rfl rfl hZE ⟨_, Tryd.underlying53, rfl⟩ (by kernel_rfl)) rfl ?_
        exact there_no HNO.out HB8.out hCE HZW.out
      have hpl' : (PL : Int) < (n : Int) := by omega
      have CG2 := hid (show Calls Tryd.prog 92 #[.pointer (some ⟨g, 0, none⟩), .int .i64 ((f : Int) + (PL : Int))] w8 (BGetTo w8 (seeG s f PL)) from by
        rw [show ((f : Int) + (PL : Int)) = ((f + PL : Nat) : Int) from by omega]
        exact rbget_calls w8 Fp B g dn dc wv s _ (H1.out.below (HB1w.out.trans (BE8.out.mono HB1w.out.size))) (by omega))
      obtain ⟨rr, hrr⟩ : ∃ rr, seeG s f PL = rr := ⟨_, rfl⟩
      have HRR2 := hid hrr
      rw [hrr] at CG2
      clear hrr
      obtain ⟨⟨kd2, ep2, ba2, bb2, dat2⟩, er2⟩ := rr
      go_upto_region 17 with (go_at_call 92; go_must (refine CG2.out.mono ?_; rintro e w9 ⟨a9, m9, p9, rfl, hm9, hO9, hb9⟩; dsimp only at hm9 hO9 ⊢; have HM9 := hid hm9; have HBS9 := hid (show BS w9 a9 p9 dat2 from hO9.bsN); have HO9 := hid (show ∀ x, a9 = some x → x.off = 0 ∧ w8.heap.size ≤ x.block ∧ x.block < w9.heap.size from (by obtain ⟨a', c', e', _, h2⟩ := hO9.bs; cases e'; exact fun x hx => ⟨(h2 x hx).1, (h2 x hx).2.2⟩)); have HB9 := hid hb9; clear hm9 hO9 hb9))
      have hb10 := below_alloc w9 (.cells #[.int .u8 (kd2 : Int), .int .u32 (ep2 : Int), .int .u32 (ba2 : Int), .int .u32 (bb2 : Int), .slice a9 m9 p9] 167)
      have k10 : Blk (w9.alloc (.cells #[.int .u8 (kd2 : Int), .int .u32 (ep2 : Int), .int .u32 (ba2 : Int), .int .u32 (bb2 : Int), .slice a9 m9 p9] 167)) w9.heap.size [.int .u8 (kd2 : Int), .int .u32 (ep2 : Int), .int .u32 (ba2 : Int), .int .u32 (bb2 : Int), .slice a9 m9 p9] 167 := blk_alloc w9 _ _
      obtain ⟨y3, hy3⟩ : ∃ y3, w9.heap.size = y3 := ⟨_, rfl⟩
      have B810 := hid (HB9.out.trans (hb10.mono HB9.out.size))
      have HY3 := hid (show w8.heap.size ≤ y3 from by rw [← hy3]; exact HB9.out.size)
      have BS10 := hid (HBS9.out.below hb10)
      have HO10 := hid (show ∀ x, a9 = some x → x.off = 0 ∧ w8.heap.size ≤ x.block ∧ x.block < y3 from by rw [← hy3]; exact HO9.out)
      rw [hy3] at k10 ⊢
      have K10 := hid k10
      clear hb10 k10 hy3 CG2
      generalize (w9.alloc (.cells #[.int .u8 (kd2 : Int), .int .u32 (ep2 : Int), .int .u32 (ba2 : Int), .int .u32 (bb2 : Int), .slice a9 m9 p9] 167)) = w10 at B810 BS10 K10 ⊢
      have BE10 := hid (BE8.out.trans (B810.out.mono BE8.out.size))
      have HB10 := hid (HB6.out.trans (BE10.out.mono HB6.out.size))
      have Z10 := hid (Z6.out.below BE10.out)
      have KY10 := hid (K6.out.below BE10.out)
      have v0 := K10.out.get 0 rfl
      have v1 := K10.out.get 1 rfl
      have v2 := K10.out.get 2 rfl
      have v3 := K10.out.get 3 rfl
      have v4 := K10.out.get 4 rfl
      have u1 := KY10.out.get 1 rfl
      have u2 := KY10.out.get 2 rfl
      have u3 := KY10.out.get 3 rfl
      have hdl2 : dat2.length = m9 := HM9.out
      by_cases q0 : er2 = 0
      case neg =>
        have q0' : ((er2 : Int) != 0) = true := by rw [bne_iff_ne]; omega
        have HNO := hid (show thereI (seeG s f) n at' = none from by exact there_blob_no HRR.out BL.out (by show blobI _ n _ (placeOf dat k) k = none; rw [HPL.out]; exact blobI_no HRR2.out (fun hh => q0 hh.1)) (by show k < countOf dat; rw [HCO.out]; exact hlt))
        go_upto_region 18 with fail
        go_step
        repeat (first | (refine wpList_store_blk (o := ⟨none, _, 0, _, _, _⟩) 53 (.tmp 8) (.tmp 175) rfl rfl z zriL zriL 53 rfl rfl Z10.out rfl (by kernel_rfl) (by simp [zriL, Value.oneCell']) ?_; intro wE hZE hCE) | go_step)
        refine bodyPost_ret (v := .tuple #[.agg zri, .bool false]) (results_blk2 (fn := Tryd.f59) (p := 8) (q := 9) (ty := 53) rfl _ z zriL 53 (.bool false) rfl rfl hZE ⟨_, Tryd.underlying53, rfl⟩ (by kernel_rfl)) rfl ?_
        exact there_no HNO.out HB10.out hCE HZW.out
      subst q0
      by_cases q1 : kd2 = 5
      case neg =>
        have q1' : ((kd2 : Int) != 5) = true := by rw [bne_iff_ne]; omega
        have HNO := hid (show thereI (seeG s f) n at' = none from by exact there_blob_no HRR.out BL.out (by show blobI _ n _ (placeOf dat k) k = none; rw [HPL.out]; exact blobI_no HRR2.out (fun hh => q1 hh.2.1)) (by show k < countOf dat; rw [HCO.out]; exact hlt))
        go_upto_region 18 with fail
        go_step
        repeat (first | (refine wpList_store_blk (o := ⟨none, _, 0, _, _, _⟩) 53 (.tmp 8) (.tmp 175) rfl rfl z zriL zriL 53 rfl rfl Z10.out rfl (by kernel_rfl) (by simp [zriL, Value.oneCell']) ?_; intro wE hZE hCE) | go_step)
        refine bodyPost_ret (v := .tuple #[.agg zri, .bool false]) (results_blk2 (fn := Tryd.f59) (p := 8) (q := 9) (ty := 53) rfl _ z zriL 53 (.bool false) rfl rfl hZE ⟨_, Tryd.underlying53, rfl⟩ (by kernel_rfl)) rfl ?_
        exact there_no HNO.out HB10.out hCE HZW.out
      subst q1
      by_cases q2 : ep2 = ep
      case neg =>
        have q2' : ((ep2 : Int) != (ep : Int)) = true := by rw [bne_iff_ne]; omega
        have HNO := hid (show thereI (seeG s f) n at' = none from by exact there_blob_no HRR.out BL.out (by show blobI _ n _ (placeOf dat k) k = none; rw [HPL.out]; exact blobI_no HRR2.out (fun hh => q2 hh.2.2.1)) (by show k < countOf dat; rw [HCO.out]; exact hlt))
        go_upto_region 18 with fail
        go_step
        repeat (first | (refine wpList_store_blk (o := ⟨none, _, 0, _, _, _⟩) 53 (.tmp 8) (.tmp 175) rfl rfl z zriL zriL 53 rfl rfl Z10.out rfl (by kernel_rfl) (by simp [zriL, Value.oneCell']) ?_; intro wE hZE hCE) | go_step)
        refine bodyPost_ret (v := .tuple #[.agg zri, .bool false]) (results_blk2 (fn := Tryd.f59) (p := 8) (q := 9) (ty := 53) rfl _ z zriL 53 (.bool false) rfl rfl hZE ⟨_, Tryd.underlying53, rfl⟩ (by kernel_rfl)) rfl ?_
        exact there_no HNO.out HB10.out hCE HZW.out
      subst q2
      by_cases q3 : ba2 = ba
      case neg =>
        have q3' : ((ba2 : Int) != (ba : Int)) = true := by rw [bne_iff_ne]; omega
        have HNO := hid (show thereI (seeG s f) n at' = none from by exact there_blob_no HRR.out BL.out (by show blobI _ n _ (placeOf dat k) k = none; rw [HPL.out]; exact blobI_no HRR2.out (fun hh => q3 hh.2.2.2.1)) (by show k < countOf dat; rw [HCO.out]; exact hlt))
        go_upto_region 18 with fail
        go_step
        repeat (first | (refine wpList_store_blk (o := ⟨none, _, 0, _, _, _⟩) 53 (.tmp 8) (.tmp 175) rfl rfl z zriL zriL 53 rfl rfl Z10.out rfl (by kernel_rfl) (by simp [zriL, Value.oneCell']) ?_; intro wE hZE hCE) | go_step)
        refine bodyPost_ret (v := .tuple #[.agg zri, .bool false]) (results_blk2 (fn := Tryd.f59) (p := 8) (q := 9) (ty := 53) rfl _ z zriL 53 (.bool false) rfl rfl hZE ⟨_, Tryd.underlying53, rfl⟩ (by kernel_rfl)) rfl ?_
        exact there_no HNO.out HB10.out hCE HZW.out
      subst q3
      by_cases q4 : bb2 = bb
      case neg =>
        have q4' : ((bb2 : Int) != (bb : Int)) = true := by rw [bne_iff_ne]; omega
        have HNO := hid (show thereI (seeG s f) n at' = none from by exact there_blob_no HRR.out BL.out (by show blobI _ n _ (placeOf dat k) k = none; rw [HPL.out]; exact blobI_no HRR2.out (fun hh => q4 hh.2.2.2.2.1)) (by show k < countOf dat; rw [HCO.out]; exact hlt))
        go_upto_region 18 with fail
        go_step
        repeat (first | (refine wpList_store_blk (o := ⟨none, _, 0, _, _, _⟩) 53 (.tmp 8) (.tmp 175) rfl rfl z zriL zriL 53 rfl rfl Z10.out rfl (by kernel_rfl) (by simp [zriL, Value.oneCell']) ?_; intro wE hZE hCE) | go_step)
        refine bodyPost_ret (v := .tuple #[.agg zri, .bool false]) (results_blk2 (fn := Tryd.f59) (p := 8) (q := 9) (ty := 53) rfl _ z zriL 53 (.bool false) rfl rfl hZE ⟨_, Tryd.underlying53, rfl⟩ (by kernel_rfl)) rfl ?_
        exact there_no HNO.out HB10.out hCE HZW.out
      subst q4
      by_cases q5 : m9 ≠ 0
      case neg =>
        have q5' : ((m9 : Int) == 0) = true := by rw [show m9 = 0 from by omega]; rfl
        have HNO := hid (show thereI (seeG s f) n at' = none from by exact there_blob_no HRR.out BL.out (by show blobI _ n _ (placeOf dat k) k = none; rw [HPL.out]; exact blobI_no HRR2.out (fun hh => hh.2.2.2.2.2.1 (by show dat2.length = 0; omega))) (by show k < countOf dat; rw [HCO.out]; exact hlt))
        go_upto_region 18 with fail
        go_step
        repeat (first | (refine wpList_store_blk (o := ⟨none, _, 0, _, _, _⟩) 53 (.tmp 8) (.tmp 175) rfl rfl z zriL zriL 53 rfl rfl Z10.out rfl (by kernel_rfl) (by simp [zriL, Value.oneCell']) ?_; intro wE hZE hCE) | go_step)
        refine bodyPost_ret (v := .tuple #[.agg zri, .bool false]) (results_blk2 (fn := Tryd.f59) (p := 8) (q := 9) (ty := 53) rfl _ z zriL 53 (.bool false) rfl rfl hZE ⟨_, Tryd.underlying53, rfl⟩ (by kernel_rfl)) rfl ?_
        exact there_no HNO.out HB10.out hCE HZW.out
      have q5' : ((m9 : Int) == 0) = false := by rw [beq_eq_false_iff_ne]; omega
      have q5i : (1 : Int) ≤ (m9 : Int) := by omega
      obtain ⟨b9, o9, rfl, hbb9⟩ := CS.at BS10.out (by simp; omega)
      obtain ⟨rfl, hlo9⟩ := HO10.out _ rfl
      dsimp only at hlo9
      have HL9 := hid hlo9
      clear hlo9
      obtain ⟨F0, hF0⟩ : ∃ D, (dat2.getD 0 0).toNat = D := ⟨_, rfl⟩
      have x9 : w10.cell? ⟨b9, 0, none⟩ = some (.int .u8 (F0 : Int)) := by
        have h := hbb9 0 (u8v (dat2.getD 0 0)) (by rw [List.getElem?_map, List.getElem?_eq_getElem (by omega), List.getD_eq_getElem?_getD, List.getElem?_eq_getElem (by omega)]; rfl)
        rw [← hF0]
        exact h
      have lf0 : (F0 : Int) ≤ 255 := by rw [← hF0]; have := (dat2.getD 0 0).toNat_lt; omega
      have HF0 := hid hF0
      have hmp9 : (m9 : Int) ≤ (p9 : Int) := by have := BS10.out.fit'; omega
      clear hF0 hbb9
      by_cases q6 : F0 = k
      case neg =>
        have q6' : ((F0 : Int) != (k : Int)) = true := by rw [bne_iff_ne]; omega
        have HNO := hid (show thereI (seeG s f) n at' = none from by exact there_blob_no HRR.out BL.out (by show blobI _ n _ (placeOf dat k) k = none; rw [HPL.out]; exact blobI_no HRR2.out (fun hh => q6 (HF0.out.symm.trans hh.2.2.2.2.2.2))) (by show k < countOf dat; rw [HCO.out]; exact hlt))
        go_upto_region 18 with fail
        go_step
        repeat (first | (refine wpList_store_blk (o := ⟨none, _, 0, _, _, _⟩) 53 (.tmp 8) (.tmp 175) rfl rfl z zriL zriL 53 rfl rfl Z10.out rfl (by kernel_rfl) (by simp [zriL, Value.oneCell']) ?_; intro wE hZE hCE) | go_step)
        refine bodyPost_ret (v := .tuple #[.agg zri, .bool false]) (results_blk2 (fn := Tryd.f59) (p := 8) (q := 9) (ty := 53) rfl _ z zriL 53 (.bool false) rfl rfl hZE ⟨_, Tryd.underlying53, rfl⟩ (by kernel_rfl)) rfl ?_
        exact there_no HNO.out HB10.out hCE HZW.out
      have q6' : ((F0 : Int) != (k : Int)) = false := by rw [bne_eq_false_iff_eq]; omega
      go_upto_region 19 with fail
      have bd := below_drew w10
      obtain ⟨a11, ha11⟩ : ∃ a, (if p9 = 1 then some (⟨b9, 0, none⟩ : Addr) else some ⟨b9, 1, none⟩) = a := ⟨_, rfl⟩
      have H11 := hid (bs_tail BS10.out HM9.out (by omega))
      rw [ha11] at H11
      have HA11 := hid ha11
      have QB10 := hid (QB8.out.below B810.out)
      have TX10 := hid (TX8.out.below B810.out)
      have RA10 := hid (RA8.out.chg (Chg.of_below [] B810.out) (by simp))
      have SZ10 := hid (Nat.le_trans SZ8.out B810.out.size)
      have QBd := hid (QB10.out.below bd)
      have g3 := QB10.out.get 3 rfl
      have g3d := QBd.out.get 3 rfl
      have v4d := (K10.out.below bd).get 4 rfl
      have hlen2 : (dat2.drop 1).length = m9 - 1 := by rw [List.length_drop]; omega
      have HL2 := hid hlen2
      have hal := (below_alloc w10 (.cells #[.slice a11 (m9 - 1) (p9 - 1)] 33))
      have hald := hal.trans ((below_drew _).mono hal.size)
      have TXA := hid (TX10.out.below hald)
      have QBA := hid (QB10.out.below hald)
      have HALD := hid hald
      have g3a := QBA.out.get 3 rfl
      rw [← ha11] at g3a
      have LIT := hid (show CS ((w10.alloc (.cells #[.slice a11 (m9 - 1) (p9 - 1)] 33)).drew) (some ⟨w10.heap.size, 0, none⟩) 1 1 (([⟨a11, p9 - 1, dat2.drop 1⟩] : List TS).flatMap tsV) from by
        rw [show ([⟨a11, p9 - 1, dat2.drop 1⟩] : List TS).flatMap tsV = [.slice a11 (m9 - 1) (p9 - 1)] from (by rw [List.flatMap_singleton]; show [Value.slice a11 (dat2.drop 1).length (p9 - 1)] = _; rw [HL2.out])]
        exact (cs_lit w10 [.slice a11 (m9 - 1) (p9 - 1)] 33 1 1 rfl (by decide)).below (below_drew _))
      have hts : ts.length ≤ 16 := by
        have h1 := (blobsI_some.1 BL.out).1
        rw [List.length_map] at h1
        omega
      have HTS := hid hts
      clear v0 v1 v2 v3 u1 u2 u3 x9 hlen2 bd hal hald hts ha11
      go_cut [] from 122 to 183 (fun w' => ∃ bv', TtAt w6 w7 q ba2 bb2 CR (ts ++ [⟨a11, p9 - 1, dat2.drop 1⟩]) bv' (.slice ua un uc) ((List.range k).map (placeOf dat)) w')
      case first =>
        as_aux_lemma =>
          go_region_law
            (refine step_ok rfl ?_; rw [HA11.out]; refine opOk_append_ro tsV_length tsV_one (by decide) (.tmp 177) (.tmp 181) _ rfl w7.heap.size 33 _ 24 info_slb rfl under_slbs _ ts TXA.out.rb rfl (l' := [⟨a11, p9 - 1, dat2.drop 1⟩]) rfl LIT.out (Nat.le_refl _) rfl (by have := HTS.out; simp; omega) (Nat.le_trans SZ10.out HALD.out.size) ?_; intro v12 w12 ho12 hg12 hv12; obtain ⟨a12, n12, c12, rfl, _, _, _⟩ := ho12.cs; have O12 := hid ho12; have G12 := hid hg12; have V12 := hid hv12; have QB12 := hid (QBA.out.keep (chg_grown hg12) (fun hm => by have := (TX10.out.rb.ownBlock q (by simpa using hm)).1; have := Q7.out.lt; omega)); have h3 := QB12.out.get 3 rfl; have i3 := QB12.out.free 3; clear ho12 hg12 hv12)
          all_goals
            as_aux_lemma =>
              have TX12 := TX8.out.more SZ8.out (B810.out.trans (HALD.out.mono B810.out.size)) ⟨a11, p9 - 1, dat2.drop 1⟩ (H11.out.1.below HALD.out) (fun x hx => by
                have h1 := H11.out.2 x hx
                have h2 := HL9.out
                have := HALD.out.size
                have := K10.out.lt
                exact ⟨by omega, by omega⟩) O12.out G12.out V12.out
              have RA12 := hid ((RA10.out.chg (Chg.of_below [] HALD.out) (by simp)).chg (chg_grown G12.out) (fun x hx hm => NO.out x (.inl (by simpa using hm)) hx))
              have hc13 := chg_setCell w12 q 3 (.slice a12 n12 c12)
              have R13 := hid (show ∃ bv', TtAt w6 w7 q ba2 bb2 CR (ts ++ [⟨a11, p9 - 1, dat2.drop 1⟩]) bv' (.slice ua un uc) ((List.range k).map (placeOf dat)) (w12.setCell ⟨q, 3, none⟩ (.slice a12 n12 c12)) from ⟨.slice a12 n12 c12, QB12.out.set 3 (.slice a12 n12 c12), (((BE10.out.trans (HALD.out.mono BE10.out.size)).trans ((chg_grown G12.out).below (Nat.le_trans BE10.out.size HALD.out.size) fun x hx => by have := (TX10.out.rb.ownBlock x (by simpa using hx)).1; have := B7.out.size; omega)).trans (hc13.below (Nat.le_trans (Nat.le_trans BE10.out.size HALD.out.size) (chg_grown G12.out).size) fun x hx => by rw [List.mem_singleton] at hx; subst hx; exact Nat.le_of_eq HQ.out)), TX12.chg hc13 (fun x hx hT => by rw [List.mem_singleton] at hx; subst hx; have := (TX12.lt _ hT).1; have := Q7.out.lt; omega), RA12.out.chg hc13 (fun x hx hm => by rw [List.mem_singleton] at hm; subst hm; have := (RA12.out.ownBlock _ hx).1; have := Q7.out.lt; omega), (fun x hx e => by
                have h1 := (RA8.out.ownBlock x e).2
                rcases TsX.cat (bv := .slice va vn vc) V12.out hx with h | ⟨t, ht, y', hy, rfl⟩ | h
                · exact NO.out x h e
                · rw [List.mem_singleton] at ht; subst ht
                  have h2 := H11.out.2 y' hy
                  have h3 := HL9.out
                  omega
                · have := HALD.out.size; have := B810.out.size; omega), Nat.le_trans SZ10.out (Nat.le_trans HALD.out.size (Nat.le_trans (chg_grown G12.out).size hc13.size))⟩)
              clear hc13 TX12
              go_wp2_with fail
              go_meet
              exact R13.out
      case rest =>
        obtain ⟨bv', h13⟩ := hcut
        obtain ⟨b13, n13, c13, rfl, _, _, _⟩ := h13.tx.rb.cs
        have H13 := hid h13
        have j4 := h13.blk.get 4 rfl
        clear h13 g3 g3d v4d g3a
        have L13 := hid (show CS (wc.alloc (.cells #[.int .i64 (PL : Int)] 3)) (some ⟨wc.heap.size, 0, none⟩) 1 1 ([PL].flatMap aV) from cs_lit wc [.int .i64 (PL : Int)] 3 1 1 rfl (by decide))
        have RL := hid (H13.out.ra.chg (Chg.of_below [] (below_alloc wc (.cells #[.int .i64 (PL : Int)] 3))) (by simp))
        go_upto_region 21 with (at_builtin; go_must (refine wpList_append_ro aV_length aV_one (by decide) (.tmp 185) (.tmp 187) _ rfl rfl w7.heap.size 3 _ 8 info_int8 rfl under_ints8 _ ((List.range k).map (placeOf dat)) RL.out rfl (l' := [PL]) rfl L13.out (Nat.le_refl _) rfl (by simp; omega) (Nat.le_trans H13.out.sz (below_alloc wc _).size) ?_; intro v14 w14 ho14 hb14 hg14 hv14; obtain ⟨a14, n14, c14, rfl, _, _, _⟩ := ho14.cs; have O14 := hid ho14; have G14 := hid hg14; have V14 := hid hv14; have QB14 := hid ((H13.out.blk.below (below_alloc wc (.cells #[.int .i64 (PL : Int)] 3))).keep (chg_grown hg14) (fun hm => by have := (H13.out.ra.ownBlock q (by simpa using hm)).1; have := Q7.out.lt; omega)); have k4 := QB14.out.get 4 rfl; have l4' := QB14.out.free 4; clear ho14 hb14 hg14 hv14))
        have H15 := hid (H13.out.place (Nat.le_of_eq HQ.out) Q7.out.lt B7.out.size (below_alloc wc (.cells #[.int .i64 (PL : Int)] 3)) O14.out G14.out V14.out)
        clear j4 k4 l4'
        generalize (w14.setCell ⟨q, 4, none⟩ (.slice a14 n14 c14)) = w15 at H15 ⊢
        have R15 := hid (show TtRel w6 w7 q (seeG s f) n ⟨6, ep2, ba2, bb2, dat⟩ CR D4 (.int .i64 ((k : Int) + 1)) w15 from by
          have h := H15.out
          refine ⟨k + 1, ts ++ [⟨a11, p9 - 1, dat2.drop 1⟩], _, _, rfl, hlt, ?_, h.blk, h.bel, h.tx, ?_, h.no, h.sz⟩
          · show (blobsI (seeG s f) n _ k).bind _ = _
            rw [BL.out]
            show (blobI (seeG s f) n _ (placeOf dat k) k).map _ = _
            rw [HPL.out, blobI_yes (h := ⟨6, ep2, ba2, bb2, dat⟩) (k := k) HRR2.out (by have := HPL.out; omega) ⟨rfl, rfl, rfl, rfl, rfl, by show dat2.length ≠ 0; have := HM9.out; omega, by have := HF0.out; show (dat2.getD 0 0).toNat = k; omega⟩, List.map_append]
            rfl
          · rw [show (List.range (k + 1)).map (placeOf dat) = (List.range k).map (placeOf dat) ++ [PL] from by rw [List.range_succ, List.map_append, ← HPL.out]; rfl]
            exact h.ra)
        clear H13 H15 RL L13
        go_wp2_with fail
        refine ⟨?_, by simp only [intOf]; omega⟩
        first | exact R15.out | ((repeat apply Exists.intro); refine ⟨R15.out, ?_⟩; and_intros <;> rfl)
    · have hlt' : ¬ ((k : Int) < (D4 : Int)) := by omega
      obtain rfl : k = D4 := by omega
      have HW := hid (show TtAt w6 w7 q ba bb CR ts (.slice va vn vc) (.slice ua un uc) ((List.range k).map (placeOf dat)) wr from ⟨QB.out, BE.out, TX.out, RA.out, NO.out, SZ.out⟩)
      have j4 := QB.out.get 4 rfl
      have L13 := hid (show CS (wr.alloc (.cells #[.int .i64 (at' : Int)] 3)) (some ⟨wr.heap.size, 0, none⟩) 1 1 ([at'].flatMap aV) from cs_lit wr [.int .i64 (at' : Int)] 3 1 1 rfl (by decide))
      have RL := hid (HW.out.ra.chg (Chg.of_below [] (below_alloc wr (.cells #[.int .i64 (at' : Int)] 3))) (by simp))
      go_upto_region 22 with fail
      go_upto_region 23 with (at_builtin; go_must (refine wpList_append_ro aV_length aV_one (by decide) (.tmp 192) (.tmp 194) _ rfl rfl w7.heap.size 3 _ 8 info_int8 rfl under_ints8 _ ((List.range k).map (placeOf dat)) RL.out rfl (l' := [at']) rfl L13.out (Nat.le_refl _) rfl (by simp; omega) (Nat.le_trans HW.out.sz (below_alloc wr _).size) ?_; intro v14 w14 ho14 hb14 hg14 hv14; obtain ⟨a14, n14, c14, rfl, _, _, _⟩ := ho14.cs; have O14 := hid ho14; have G14 := hid hg14; have V14 := hid hv14; have QB14 := hid ((HW.out.blk.below (below_alloc wr (.cells #[.int .i64 (at' : Int)] 3))).keep (chg_grown hg14) (fun hm => by have := (HW.out.ra.ownBlock q (by simpa using hm)).1; have := Q7.out.lt; omega)); have k4 := QB14.out.get 4 rfl; have l4' := QB14.out.free 4; clear ho14 hb14 hg14 hv14))
      have H15 := hid (HW.out.place (Nat.le_of_eq HQ.out) Q7.out.lt B7.out.size (below_alloc wr (.cells #[.int .i64 (at' : Int)] 3)) O14.out G14.out V14.out)
      clear j4 k4 l4'
      generalize (w14.setCell ⟨q, 4, none⟩ (.slice a14 n14 c14)) = w15 at H15 ⊢
      have Z15 := hid (Z6.out.below H15.out.bel)
      have HB15w := hid (HB6.out.trans (H15.out.bel.mono HB6.out.size))
      have hvn : ts.length = vn := by obtain ⟨_, _, _, e, h1, _, _⟩ := TX.out.rb.cs; cases e; exact h1
      have hn14 : ((List.range k).map (placeOf dat) ++ [at']).length = n14 := by obtain ⟨_, _, _, e, h1, _, _⟩ := O14.out.cs; cases e; exact h1
      have HVN := hid hvn
      have HN14 := hid hn14
      clear hvn hn14
      repeat (first | (refine wpList_load_blk (o := ⟨some 197, _, _, _, _, _⟩) 53 (.tmp 15) rfl rfl q _ 53 rfl H15.out.blk ⟨_, Tryd.underlying53, rfl⟩ (by kernel_rfl) ?_) | (refine wpList_store_blk (o := ⟨none, _, 0, _, _, _⟩) 53 (.tmp 8) (.tmp 197) rfl rfl z zriL _ 53 rfl rfl Z15.out rfl (by kernel_rfl) (by simp [Value.oneCell']) ?_; intro wE hZE hCE) | go_step)
      have hZE' : Blk wE z [.int .u32 (ba : Int), .int .u32 (bb : Int), .int .i64 (CR : Int), .slice va vn vc, .slice a14 n14 c14] 53 := hZE
      refine bodyPost_ret (v := .tuple #[.agg #[.int .u32 (ba : Int), .int .u32 (bb : Int), .int .i64 (CR : Int), .slice va vn vc, .slice a14 n14 c14], .bool true]) (results_blk2 (fn := Tryd.f59) (p := 8) (q := 9) (ty := 53) rfl _ z _ 53 (.bool true) rfl rfl hZE' ⟨_, Tryd.underlying53, rfl⟩ (by kernel_rfl)) rfl ?_
      have hz7 : z < w7.heap.size := Nat.lt_of_lt_of_le Z6.out.lt B7.out.size
      have hw7 : w.heap.size ≤ w7.heap.size := Nat.le_trans HB6.out.size B7.out.size
      have hth : thereI (seeG s f) n at' = some ⟨ba, bb, (CR : Int), ts.map TS.p, (List.range k).map (placeOf dat) ++ [at']⟩ := by
        unfold thereI imageI
        rw [HRR.out, if_neg (by simp)]
        dsimp only
        rw [if_pos HOKH.out]
        show (blobsI (seeG s f) n _ (countOf dat)).map _ = _
        rw [HCO.out, BL.out]
        show some (⟨ba, bb, (creditOf dat : Int), ts.map TS.p, (List.range k).map (placeOf dat) ++ [at']⟩ : Img) = _
        rw [HCRE.out]
      rw [hth]
      refine ⟨HB15w.out.trans (hCE.below HB15w.out.size fun x hx => by rw [List.mem_singleton] at hx; subst hx; exact HZW.out), ⟨⟨ba, bb, (CR : Int), ts.map TS.p, (List.range k).map (placeOf dat) ++ [at']⟩, va, vc, a14, c14⟩, rfl, ?_, ?_, ?_⟩
      · rw [← HVN.out, ← HN14.out]
        simp only [riV, List.length_map]
      · have h := H15.out.tx.blx
        rw [show (ts.map TS.p).length = vn from by rw [List.length_map]; exact HVN.out]
        exact h.keep hCE (fun x hx hT => by rw [List.mem_singleton] at hx; subst hx; have := (H15.out.tx.lt _ hT).1; omega) (fun x hT => ⟨Nat.le_trans hw7 (H15.out.tx.lt _ hT).1, Nat.lt_of_lt_of_le (H15.out.tx.lt _ hT).2 hCE.size⟩)
      · rw [show ((List.range k).map (placeOf dat) ++ [at']).length = n14 from HN14.out]
        have ho := H15.out.ra.ownBlock
        obtain ⟨a, m', c, e, h1, _, h3⟩ := H15.out.ra.cs
        cases e
        refine ⟨a14, c14, by rw [HN14.out], h3.chg hCE (fun x hx hm => ?_), fun x hx => ?_⟩
        · rw [List.mem_singleton] at hm
          have := (ho x.block (by rw [hx]; rfl)).1
          omega
        · have := ho x.block (by rw [hx]; rfl)
          exact ⟨Nat.le_trans hw7 this.1, Nat.lt_of_lt_of_le this.2 hCE.size⟩
end Go.Proofs.YtoapibbbooongaaDoor
