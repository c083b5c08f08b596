/- The walks of layer 8: an image whose head that is. -/
import Derived.Test.YtoapibbbooongaaDoorImgD
import Derived.Test.YtoapibbbooongaaDoorBlkF
import Derived.Test.YtoapibbbooongaaDoorTxts
namespace Go.Proofs.YtoapibbbooongaaDoor
open Go.RowKit Go.Quad _root_.Quad _root_.Quad.Slab

theorem or_cred (a b c d : Nat) (ha : (a : Int) ≤ 255) (hb : (b : Int) ≤ 255) (hc : (c : Int) ≤ 255) (hd : (d : Int) ≤ 255) :
    bits .or .i64 (bits .or .i64 (bits .or .i64 (a : Int) ((b : Int) * 256)) ((c : Int) * 65536)) ((d : Int) * 16777216) = ((a + 256 * b + 65536 * c + 16777216 * d : Nat) : Int) := by
  have t : ∀ n : Nat, n < 2 ^ 64 → (BitVec.ofInt 64 (n : Int)).toNat = n := by
    intro n hn
    rw [BitVec.toNat_ofInt]
    omega
  have gen : ∀ (k x y : Nat), k ≤ 32 → x < 2 ^ k → y * 2 ^ k < 2 ^ 62 → bits .or .i64 (x : Int) ((y : Int) * ((2 ^ k : Nat) : Int)) = ((x + y * 2 ^ k : Nat) : Int) := by
    intro k x y hk hx hy
    have h31 : 2 ^ k ≤ 2 ^ 32 := Nat.pow_le_pow_right (by omega) hk
    have e : (y : Int) * ((2 ^ k : Nat) : Int) = ((y * 2 ^ k : Nat) : Int) := by rw [Int.natCast_mul]
    rw [e]
    simp only [bits]
    show IntKind.i64.wrap (((BitVec.ofInt 64 (x : Int) ||| BitVec.ofInt 64 ((y * 2 ^ k : Nat) : Int)).toNat : Nat) : Int) = _
    generalize hz : y * 2 ^ k = z at hy
    rw [BitVec.toNat_or, t _ (by omega), t _ (by omega), Nat.or_comm, nat_join k z x (by rw [← hz]; exact Nat.mul_mod_left _ _) hx, IntWalk.i64_in _ (by omega)]
    omega
  have e1 := gen 8 a b (by omega) (by omega) (by omega)
  rw [show (((2 ^ 8 : Nat)) : Int) = 256 from rfl] at e1
  rw [e1]
  have e2 := gen 16 (a + b * 2 ^ 8) c (by omega) (by omega) (by omega)
  rw [show (((2 ^ 16 : Nat)) : Int) = 65536 from rfl] at e2
  rw [e2]
  have e3 := gen 24 (a + b * 2 ^ 8 + c * 2 ^ 16) d (by omega) (by omega) (by omega)
  rw [show (((2 ^ 24 : Nat)) : Int) = 16777216 from rfl] at e3
  rw [e3]
  omega

def keptV (job ver : Nat) (cr : Int) (bv av : Value) : List Value := [.int .u32 (job : Int), .int .u32 (ver : Int), .int .i64 cr, bv, av]
def zkept : List Value := keptV 0 0 0 (.slice none 0 0) (.slice none 0 0)
/-- an image that is being put together in a block -/
structure KeptIn (w3 w : World) (q job ver : Nat) (cr : Int) (ts : List TS) (zs : List Nat) (bv av : Value) : Prop where
  own : Blk w q (keptV job ver cr bv av) 100
  rb : RO tsV 1 w w3.heap.size 33 bv ts
  ra : RO aV 1 w w3.heap.size 3 av zs
  tx : ∀ t ∈ ts, BS w t.a t.c t.p ∧ ∀ x, t.a = some x → w3.heap.size ≤ x.block ∧ x.block < w.heap.size ∧ bv.ownBlock ≠ some x.block ∧ av.ownBlock ≠ some x.block
  ap : ∀ j, bv.ownBlock = some j → av.ownBlock ≠ some j
  chg : Chg [q] w3 w
  lt : q < w3.heap.size
theorem KeptIn.below {w3 w w' : World} {q job ver : Nat} {cr : Int} {ts : List TS} {zs : List Nat} {bv av : Value} (h : KeptIn w3 w q job ver cr ts zs bv av) (hb : Below w.heap.size w w') : KeptIn w3 w' q job ver cr ts zs bv av :=
  ⟨h.own.below hb, h.rb.below hb, h.ra.below hb, fun t ht => ⟨bs_keep (h.tx t ht).1 (Chg.of_below [] hb) (.inr (by simp)), fun x hx => ⟨((h.tx t ht).2 x hx).1, Nat.lt_of_lt_of_le ((h.tx t ht).2 x hx).2.1 hb.size, ((h.tx t ht).2 x hx).2.2⟩⟩, h.ap, h.chg.trans (Chg.of_below _ hb), h.lt⟩
theorem KeptIn.blob {w3 w w4 w5 : World} {q job ver : Nat} {cr : Int} {ts : List TS} {zs : List Nat} {bv av bv' : Value} (h : KeptIn w3 w q job ver cr ts zs bv av) (hb : Below w.heap.size w w4) (t : TS) (ht : BS w4 t.a t.c t.p) (hn : ∀ x, t.a = some x → w.heap.size ≤ x.block ∧ x.block < w4.heap.size)
    (hro : RO tsV 1 w5 w3.heap.size 33 bv' (ts ++ [t])) (hg : w4.grownBy w5 bv.ownBlock) (hv : bv'.ownBlock = bv.ownBlock ∨ bv'.ownBlock = some w4.heap.size) : KeptIn w3 (w5.setCell ⟨q, 3, none⟩ bv') q job ver cr (ts ++ [t]) zs bv' av := by
  have hlt := h.lt
  have hs3 := h.chg.size
  have hbl : ∀ k, bv.ownBlock = some k → w3.heap.size ≤ k ∧ k < w.heap.size := h.rb.ownBlock
  have hal : ∀ k, av.ownBlock = some k → w3.heap.size ≤ k ∧ k < w.heap.size := h.ra.ownBlock
  have hnl : ∀ k, bv'.ownBlock = some k → w3.heap.size ≤ k ∧ k < w5.heap.size := hro.ownBlock
  have c4 : Chg bv.ownBlock.toList w4 w5 := chg_grown hg
  have c : Chg bv.ownBlock.toList w w5 := (Chg.of_below _ hb).trans c4
  have cs := chg_setCell w5 q 3 bv'
  have s4 := hb.size
  have s5 := c4.size
  have hq : q ∉ bv.ownBlock.toList := fun hm => by have := hbl q (by simpa using hm); omega
  refine ⟨(h.own.keep c hq).set 3 bv', hro.chg cs (fun k hk hm => by have := hnl k hk; simp at hm; omega), (h.ra.chg c (fun k hk hm => h.ap k (by simpa using hm) hk)).chg cs (fun k hk hm => by have := hal k hk; simp at hm; omega), fun t0 h0 => ?_, fun j hj => ?_, ?_, hlt⟩
  · rcases List.mem_append.1 h0 with h0 | h0
    · obtain ⟨h1, h2⟩ := h.tx t0 h0
      refine ⟨bs_keep (bs_keep h1 c (.inr fun x hx hm => (h2 x hx).2.2.1 (by simpa using hm))) cs (.inr fun x hx hm => by have := h2 x hx; simp at hm; omega), fun x hx => ?_⟩
      obtain ⟨h3, h4, h5, h6⟩ := h2 x hx
      have := cs.size
      refine ⟨h3, by omega, fun e => ?_, h6⟩
      rcases hv with hv | hv
      · exact h5 (by rw [← hv]; exact e)
      · rw [hv] at e; simp only [Option.some.injEq] at e; omega
    · rw [List.mem_singleton] at h0
      subst h0
      refine ⟨bs_keep (bs_keep ht c4 (.inr fun x hx hm => by have := hbl _ (show bv.ownBlock = some x.block by simpa using hm); have := hn x hx; omega)) cs (.inr fun x hx hm => by have := hn x hx; simp at hm; omega), fun x hx => ?_⟩
      obtain ⟨h3, h4⟩ := hn x hx
      have := cs.size
      refine ⟨by omega, by omega, fun e => ?_, fun e => by have := hal _ e; omega⟩
      rcases hv with hv | hv
      · have := hbl _ (hv.symm.trans e); omega
      · rw [hv] at e; simp only [Option.some.injEq] at e; omega
  · intro e
    rcases hv with hv | hv
    · exact h.ap j (hv.symm.trans hj) e
    · rw [hv] at hj; simp only [Option.some.injEq] at hj; have := hal _ e; omega
  · exact (h.chg.newer c (fun k hk => (hbl k (by simpa using hk)).1)).trans cs
theorem KeptIn.place {w3 w w4 w5 : World} {q job ver : Nat} {cr : Int} {ts : List TS} {zs : List Nat} {bv av av' : Value} (h : KeptIn w3 w q job ver cr ts zs bv av) (hb : Below w.heap.size w w4) (i : Nat)
    (hro : RO aV 1 w5 w3.heap.size 3 av' (zs ++ [i])) (hg : w4.grownBy w5 av.ownBlock) (hv : av'.ownBlock = av.ownBlock ∨ av'.ownBlock = some w4.heap.size) : KeptIn w3 (w5.setCell ⟨q, 4, none⟩ av') q job ver cr ts (zs ++ [i]) bv av' := by
  have hlt := h.lt
  have hs3 := h.chg.size
  have hbl : ∀ k, bv.ownBlock = some k → w3.heap.size ≤ k ∧ k < w.heap.size := h.rb.ownBlock
  have hal : ∀ k, av.ownBlock = some k → w3.heap.size ≤ k ∧ k < w.heap.size := h.ra.ownBlock
  have hnl : ∀ k, av'.ownBlock = some k → w3.heap.size ≤ k ∧ k < w5.heap.size := hro.ownBlock
  have c4 : Chg av.ownBlock.toList w4 w5 := chg_grown hg
  have c : Chg av.ownBlock.toList w w5 := (Chg.of_below _ hb).trans c4
  have cs := chg_setCell w5 q 4 av'
  have s4 := hb.size
  have s5 := c4.size
  have hq : q ∉ av.ownBlock.toList := fun hm => by have := hal q (by simpa using hm); omega
  refine ⟨(h.own.keep c hq).set 4 av', (h.rb.chg c (fun k hk hm => h.ap k hk (by simpa using hm))).chg cs (fun k hk hm => by have := hbl k hk; simp at hm; omega), hro.chg cs (fun k hk hm => by have := hnl k hk; simp at hm; omega), fun t0 h0 => ?_, fun j hj => ?_, ?_, hlt⟩
  · obtain ⟨h1, h2⟩ := h.tx t0 h0
    refine ⟨bs_keep (bs_keep h1 c (.inr fun x hx hm => (h2 x hx).2.2.2 (by simpa using hm))) cs (.inr fun x hx hm => by have := h2 x hx; simp at hm; omega), fun x hx => ?_⟩
    obtain ⟨h3, h4, h5, h6⟩ := h2 x hx
    have := cs.size
    refine ⟨h3, by omega, h5, fun e => ?_⟩
    rcases hv with hv | hv
    · exact h6 (by rw [← hv]; exact e)
    · rw [hv] at e; simp only [Option.some.injEq] at e; omega
  · intro e
    rcases hv with hv | hv
    · exact h.ap j hj (hv.symm.trans e)
    · rw [hv] at e; simp only [Option.some.injEq] at e; have := hbl _ hj; omega
  · exact (h.chg.newer c (fun k hk => (hal k (by simpa using hk)).1)).trans cs
theorem KeptIn.ent {w3 w : World} {q job ver : Nat} {cr : Int} {ts : List TS} {zs : List Nat} {bv av : Value} (h : KeptIn w3 w q job ver cr ts zs bv av) (h1 : 0 < ts.length) (h2 : 0 < zs.length) (B : Nat) (hB : B ≤ w3.heap.size) :
    ∃ en : Ent, en.x = ⟨job, ver, cr, ts.map TS.p, zs⟩ ∧ keptV job ver cr bv av = en.V ∧ en.At w (fun k => B ≤ k ∧ k < w.heap.size) := by
  obtain ⟨ba, bn, bc, rfl, hbn, hbc, hb⟩ := h.rb.cs
  obtain ⟨aa, an, ac, rfl, han, hac, ha⟩ := h.ra.cs
  obtain ⟨bb, bo, rfl, _⟩ := hb.at (by rw [flat_length tsV 1 tsV_length]; omega)
  obtain ⟨ab, ao, rfl, _⟩ := ha.at (by rw [flat_length aV 1 aV_length]; omega)
  have o1 := h.rb.ownBlock bb rfl
  have o2 := h.ra.ownBlock ab rfl
  subst hbn han
  refine ⟨⟨⟨job, ver, cr, ts.map TS.p, zs⟩, bb, bo, bc, ab, ao, ac⟩, rfl, ?_, ?_, ?_⟩
  · simp [Ent.V, imgV, Ent.bv, Ent.av, keptV]
  · refine ⟨_, _, ts.map (fun t => (.slice t.a t.p.length t.c, t.p)), rfl, ?_, ?_, fun x hx => ?_, fun x hx => by cases hx; exact ⟨by dsimp only; omega, o1.2⟩⟩
    · rw [List.flatMap_map]; exact hb
    · rw [List.map_map]; rfl
    · obtain ⟨t, ht, rfl⟩ := List.mem_map.1 hx
      exact ⟨t.a, t.c, rfl, (h.tx t ht).1, fun y hy => ⟨by have := ((h.tx t ht).2 y hy).1; omega, ((h.tx t ht).2 y hy).2.1⟩⟩
  · exact ⟨_, _, rfl, ha, fun x hx => by cases hx; exact ⟨by dsimp only; omega, o2.2⟩⟩
theorem blobsI_none {G : Nat → BlkD × Nat} {N : Nat} {h : BlkD} {k : Nat} (hb : blobI G N h (placeOf h.data k) k = none) : ∀ d, blobsI G N h (k + 1 + d) = none
  | 0 => by
    show (blobsI G N h k).bind (fun l => (blobI G N h (placeOf h.data k) k).map fun b => l ++ [b]) = none
    rw [hb]; cases blobsI G N h k <;> rfl
  | d + 1 => by
    show (blobsI G N h (k + 1 + d)).bind _ = none
    rw [blobsI_none hb d]; rfl
theorem image_none {G : Nat → BlkD × Nat} {N : Nat} {h : BlkD} {k pl a : Nat} (hp : placeOf h.data k = pl) (hb : blobI G N h pl k = none) (hk : k < countOf h.data) : imageI G N h a = none := by
  subst hp
  unfold imageI
  have := blobsI_none hb (countOf h.data - (k + 1))
  rw [show k + 1 + (countOf h.data - (k + 1)) = countOf h.data from by omega] at this
  rw [this]
  split <;> rfl
/-- so far, behind k blobs -/
def IlRel (G : Nat → BlkD × Nat) (N : Nat) (h : BlkD) (w3 : World) (q n : Nat) (cr : Int) (iv : Value) (wr : World) : Prop :=
  ∃ (k : Nat) (ts : List TS) (bv av : Value), iv = .int .i64 (k : Int) ∧ k ≤ n ∧ blobsI G N h k = some (ts.map TS.p) ∧ KeptIn w3 wr q h.a h.b cr ts ((List.range k).map (placeOf h.data)) bv av
def ImageTo (w : World) (r : Option Img) (e : Ending) (w' : World) : Prop :=
  Below w.heap.size w w' ∧ match r with
  | none => e = .returned (.tuple #[.agg zkept.toArray, .bool false])
  | some x => ∃ en : Ent, en.x = x ∧ e = .returned (.tuple #[.agg en.V.toArray, .bool true]) ∧ en.At w' (fun k => w.heap.size ≤ k ∧ k < w'.heap.size)
theorem image_no {w w' : World} {r : Option Img} (hb : Below w.heap.size w w') (hr : r = none) : ImageTo w r (.returned (.tuple #[.agg zkept.toArray, .bool false])) w' := by
  subst hr; exact ⟨hb, rfl⟩
theorem bs_cells {w : World} {a : Option Addr} {c : Nat} {l : List UInt8} (h : BS w a c l) (h0 : 0 < l.length) : ∃ b off, a = some ⟨b, off, none⟩ ∧ ∀ i, i < l.length → w.cell? ⟨b, off + i, none⟩ = some (.int .u8 ((l.getD i 0).toNat : Int)) := by
  rcases CS.at' h with h | ⟨b, off, e, hh⟩
  · have := congrArg List.length h; rw [List.length_map] at this; simp only [List.length_nil] at this; omega
  · exact ⟨b, off, e, fun i hi => hh i _ (by rw [List.getElem?_map, List.getElem?_eq_getElem hi, List.getD_eq_getElem?_getD, List.getElem?_eq_getElem hi]; rfl)⟩
set_option maxRecDepth 100000 in
set_option maxHeartbeats 4000000 in
theorem image_calls (w : World) (B g d : Nat) (wv : Value) (c mb fg : Nat) (I : Im) (h : BlkD) (ha : Option Addr) (hn hc : Nat) (at' : Nat) (hS : IsSlab w B g d wv I.sl) (hI : Blk w c (stoV g mb fg I) 94)
    (hfr : I.from' + I.used.length ≤ 4096) (_hat : at' < I.used.length) (hq : Laid w) (hd : BS w ha hc h.data) (hnl : h.data.length = hn) (hok : h.Ok) :
    Calls Tryd.prog 48 #[.pointer (some ⟨c, 0, none⟩), .agg (blkCs h ha hn hc).toArray, .int .i64 (at' : Int)] w (ImageTo w (imageI (seeG I.sl I.from') I.used.length h at')) := by
  have HS := hid hS
  have HI := hid hI
  have HL := hid hq
  have HD := hid hd
  have HN := hid hnl
  have hb0 := below_alloc w (.cells (blkCs h ha hn hc).toArray 96)
  have k0 := blk_alloc w (blkCs h ha hn hc) 96
  have hz0 : (w.alloc (.cells (blkCs h ha hn hc).toArray 96)).heap.size = w.heap.size + 1 := by simp
  obtain ⟨R0, hR0⟩ : ∃ R0, imageI (seeG I.sl I.from') I.used.length h at' = R0 := ⟨_, rfl⟩
  rw [hR0]
  have HR0 := hid hR0
  obtain ⟨hkd, hep, hha, hhb, hdat⟩ := h
  unfold blkCs at *
  dsimp only at *
  clear hS hI hq hd hnl hR0
  go_enter Tryd.func48, Tryd.ntmps48
  go_upto_region 2 with fail
  obtain ⟨q, hqq⟩ : ∃ q, w.heap.size = q := ⟨_, rfl⟩
  have hb1 := below_alloc (w.alloc (.cells #[.int .u8 (hkd : Int), .int .u32 (hep : Int), .int .u32 (hha : Int), .int .u32 (hhb : Int), .slice ha hn hc] 96)) (.cells zkept.toArray 100)
  have z0 := blk_alloc (w.alloc (.cells #[.int .u8 (hkd : Int), .int .u32 (hep : Int), .int .u32 (hha : Int), .int .u32 (hhb : Int), .slice ha hn hc] 96)) zkept 100
  have k1 := k0.below hb1
  have hb2 := hb0.trans (hb1.mono hb0.size)
  unfold zkept keptV at z0 hb1 hb2 k1
  rw [hz0] at z0
  rw [hqq] at z0 k1
  have hz2 : ((w.alloc (.cells #[.int .u8 (hkd : Int), .int .u32 (hep : Int), .int .u32 (hha : Int), .int .u32 (hhb : Int), .slice ha hn hc] 96)).alloc (.cells [.int .u32 0, .int .u32 0, .int .i64 0, .slice none 0 0, .slice none 0 0].toArray 100)).heap.size = q + 2 := by simp; omega
  have B2 := hid hb2
  have K2 := hid k1
  have Z2 := hid (show Blk _ (q + 1) zkept 100 from z0)
  clear hb0 k0 hz0 hb1 z0 k1 hb2
  rw [hqq]
  generalize ((w.alloc (.cells #[.int .u8 (hkd : Int), .int .u32 (hep : Int), .int .u32 (hha : Int), .int .u32 (hhb : Int), .slice ha hn hc] 96)).alloc (.cells #[.int .u32 0, .int .u32 0, .int .i64 0, .slice none 0 0, .slice none 0 0] 100)) = w2 at B2 K2 Z2 hz2 ⊢
  have k0 := K2.out.get 0 rfl
  have k2 := K2.out.get 2 rfl
  have HNo := hid (fun (h : headOk ⟨hkd, hep, hha, hhb, hdat⟩ = false) => (show R0 = none from by rw [← HR0.out]; unfold imageI; rw [h]; rfl))
  by_cases e0 : hkd = 6
  case neg =>
    have e0' : ¬ ((hkd : Int) = 6) := by omega
    go_upto_region 3 with fail
    go_step
    repeat (first | (refine wpList_store_blk (o := ⟨none, _, 0, _, _, _⟩) 100 (.tmp 6) (.tmp 30) rfl rfl (q + 1) zkept zkept 100 rfl rfl Z2.out rfl (by kernel_rfl) (by simp [zkept, keptV, Value.oneCell']) ?_; intro wE hZE hCE) | go_step)
    refine bodyPost_ret (v := .tuple #[.agg zkept.toArray, .bool false]) (results_blk2 (fn := Tryd.f48) (p := 6) (q := 7) (ty := 100) rfl _ (q + 1) zkept 100 (.bool false) rfl rfl hZE ⟨_, Tryd.underlying100, rfl⟩ (by kernel_rfl)) rfl ?_
    exact image_no (B2.out.trans (hCE.below B2.out.size (by simp; omega))) (HNo.out (by unfold headOk; dsimp only; rw [decide_eq_false e0]; rfl))
  subst e0
  by_cases e1 : hha = 0
  case pos =>
    subst e1
    go_upto_region 3 with fail
    go_step
    repeat (first | (refine wpList_store_blk (o := ⟨none, _, 0, _, _, _⟩) 100 (.tmp 6) (.tmp 30) rfl rfl (q + 1) zkept zkept 100 rfl rfl Z2.out rfl (by kernel_rfl) (by simp [zkept, keptV, Value.oneCell']) ?_; intro wE hZE hCE) | go_step)
    refine bodyPost_ret (v := .tuple #[.agg zkept.toArray, .bool false]) (results_blk2 (fn := Tryd.f48) (p := 6) (q := 7) (ty := 100) rfl _ (q + 1) zkept 100 (.bool false) rfl rfl hZE ⟨_, Tryd.underlying100, rfl⟩ (by kernel_rfl)) rfl ?_
    exact image_no (B2.out.trans (hCE.below B2.out.size (by simp; omega))) (HNo.out (by simp [headOk]))
  have e1' : ¬ ((hha : Int) = 0) := by omega
  by_cases e2 : hn < 5
  case pos =>
    have e2' : (hn : Int) < 5 := by omega
    go_upto_region 3 with fail
    go_step
    repeat (first | (refine wpList_store_blk (o := ⟨none, _, 0, _, _, _⟩) 100 (.tmp 6) (.tmp 30) rfl rfl (q + 1) zkept zkept 100 rfl rfl Z2.out rfl (by kernel_rfl) (by simp [zkept, keptV, Value.oneCell']) ?_; intro wE hZE hCE) | go_step)
    refine bodyPost_ret (v := .tuple #[.agg zkept.toArray, .bool false]) (results_blk2 (fn := Tryd.f48) (p := 6) (q := 7) (ty := 100) rfl _ (q + 1) zkept 100 (.bool false) rfl rfl hZE ⟨_, Tryd.underlying100, rfl⟩ (by kernel_rfl)) rfl ?_
    exact image_no (B2.out.trans (hCE.below B2.out.size (by simp; omega))) (HNo.out (by have := HN.out; simp [headOk]; omega))
  have e2' : ¬ ((hn : Int) < 5) := by omega
  obtain ⟨b, off, rfl, hcl⟩ := bs_cells HD.out (by have := HN.out; omega)
  have HBQ := hid (show b < q from by have := World.block_lt_of_cell? _ _ (hcl 0 (by have := HN.out; omega)); dsimp only at this; omega)
  have hl5 : 5 ≤ hdat.length := by have := HN.out; omega
  have gc : ∀ i, i < hdat.length → w2.cell? ⟨b, off + i, none⟩ = some (.int .u8 ((hdat.getD i 0).toNat : Int)) := fun i hi => cell_later B2.out (hcl i hi)
  have d0 := gc 0 (by omega)
  have d1 := gc 1 (by omega)
  have d2 := gc 2 (by omega)
  have d3 := gc 3 (by omega)
  have d4 := gc 4 (by omega)
  rw [Nat.add_zero] at d0
  have GC := hid gc
  have HL5 := hid hl5
  have l0 := (hdat.getD 0 0).toNat_lt
  have l1 := (hdat.getD 1 0).toNat_lt
  have l2 := (hdat.getD 2 0).toNat_lt
  have l3 := (hdat.getD 3 0).toNat_lt
  have l4 := (hdat.getD 4 0).toNat_lt
  have HC := hid (show creditOf hdat = (hdat.getD 0 0).toNat + 256 * (hdat.getD 1 0).toNat + 65536 * (hdat.getD 2 0).toNat + 16777216 * (hdat.getD 3 0).toNat from rfl)
  have HK := hid (show countOf hdat = (hdat.getD 4 0).toNat from rfl)
  clear gc hcl hl5
  generalize (hdat.getD 0 0).toNat = y0 at d0 l0 HC
  generalize (hdat.getD 1 0).toNat = y1 at d1 l1 HC
  generalize (hdat.getD 2 0).toNat = y2 at d2 l2 HC
  generalize (hdat.getD 3 0).toNat = y3 at d3 l3 HC
  generalize (hdat.getD 4 0).toNat = y4 at d4 l4 HK
  have m0 : (y0 : Int) ≤ 255 := by omega
  have m1 : (y1 : Int) ≤ 255 := by omega
  have m2 : (y2 : Int) ≤ 255 := by omega
  have m3 : (y3 : Int) ≤ 255 := by omega
  have m4 : (y4 : Int) ≤ 255 := by omega
  clear l0 l1 l2 l3 l4
  go_upto_region 5 with fail
  have k3 := K2.out.get 3 rfl
  have HM := hid (And.intro k2 (And.intro k3 (And.intro d0 (And.intro d1 (And.intro d2 d3)))))
  have n0 : (0 : Int) < (hn : Int) := by omega
  have n1 : (1 : Int) < (hn : Int) := by omega
  have n2 : (2 : Int) < (hn : Int) := by omega
  have n3 : (3 : Int) < (hn : Int) := by omega
  have n0' : 0 < hn := by omega
  have n1' : 1 < hn := by omega
  have n2' : 2 < hn := by omega
  have n3' : 3 < hn := by omega
  have hcr := or_cred y0 y1 y2 y3 m0 m1 m2 m3
  have MKS := hid fun (W : World) (hW : Below w2.heap.size w2 W) => (show (W.cell? ⟨q, 2, none⟩ = some (.int .u32 (hha : Int)) ∧ W.cell? ⟨q, 3, none⟩ = some (.int .u32 (hhb : Int)) ∧ W.cell? ⟨b, off, none⟩ = some (.int .u8 (y0 : Int)) ∧ W.cell? ⟨b, off + 1, none⟩ = some (.int .u8 (y1 : Int)) ∧ W.cell? ⟨b, off + 2, none⟩ = some (.int .u8 (y2 : Int)) ∧ W.cell? ⟨b, off + 3, none⟩ = some (.int .u8 (y3 : Int)) ∧ Below w2.heap.size w2 W) from ⟨cell_later hW HM.out.1, cell_later hW HM.out.2.1, cell_later hW HM.out.2.2.1, cell_later hW HM.out.2.2.2.1, cell_later hW HM.out.2.2.2.2.1, cell_later hW HM.out.2.2.2.2.2, hW⟩)
  go_region_held3 (fun W => (W.cell? ⟨q, 2, none⟩ = some (.int .u32 (hha : Int)) ∧ W.cell? ⟨q, 3, none⟩ = some (.int .u32 (hhb : Int)) ∧ W.cell? ⟨b, off, none⟩ = some (.int .u8 (y0 : Int)) ∧ W.cell? ⟨b, off + 1, none⟩ = some (.int .u8 (y1 : Int)) ∧ W.cell? ⟨b, off + 2, none⟩ = some (.int .u8 (y2 : Int)) ∧ W.cell? ⟨b, off + 3, none⟩ = some (.int .u8 (y3 : Int)) ∧ Below w2.heap.size w2 W))
    ((refine MKS.out _ ?_; first | with_reducible exact below_drew _ | with_reducible exact (below_alloc _ _).trans ((below_drew _).mono (below_alloc _ _).size) | with_reducible exact Below.refl _ _))
    (fail "no")
  have hcr2 : bits .or .i64 (bits .or .i64 (bits .or .i64 (IntKind.i64.wrap (y0 : Int)) (IntKind.i64.wrap (IntKind.i64.wrap (y1 : Int) * 256))) (IntKind.i64.wrap (IntKind.i64.wrap (y2 : Int) * 65536))) (IntKind.i64.wrap (IntKind.i64.wrap (y3 : Int) * 16777216)) = ((creditOf hdat : Nat) : Int) := by
    rw [HC.out, ← hcr, IntWalk.i64_in (y0 : Int) (by omega), IntWalk.i64_in (y1 : Int) (by omega), IntWalk.i64_in (y2 : Int) (by omega), IntWalk.i64_in (y3 : Int) (by omega), IntWalk.i64_in _ (by omega), IntWalk.i64_in _ (by omega), IntWalk.i64_in _ (by omega)]
  rw [hcr2]
  have hcl : creditOf hdat < 4294967296 := by rw [HC.out]; omega
  obtain ⟨cr, hcre⟩ : ∃ cr, creditOf hdat = cr := ⟨_, rfl⟩
  rw [hcre] at hcl ⊢
  have HCR := hid hcre
  have hba := below_alloc w2 (.cells (keptV hha hhb (cr : Int) (.slice none 0 0) (.slice none 0 0)).toArray 100)
  have hbd := below_drew (w2.alloc (.cells (keptV hha hhb (cr : Int) (.slice none 0 0) (.slice none 0 0)).toArray 100))
  have x0 := (blk_alloc w2 (keptV hha hhb (cr : Int) (.slice none 0 0) (.slice none 0 0)) 100).below hbd
  have hb3 := hba.trans (hbd.mono hba.size)
  unfold keptV at x0 hb3
  rw [hz2] at x0
  have HX0 := hid (show Blk _ (q + 2) (keptV hha hhb (cr : Int) (.slice none 0 0) (.slice none 0 0)) 100 from x0)
  have B3 := hid (B2.out.trans (hb3.mono B2.out.size))
  have K3 := hid (K2.out.below hb3)
  have Z3 := hid (Z2.out.below hb3)
  have GC3 := hid fun i hi => cell_later hb3 (GC.out i hi)
  have hz3 : (w2.alloc (.cells #[.int .u32 (hha : Int), .int .u32 (hhb : Int), .int .i64 (cr : Int), .slice none 0 0, .slice none 0 0] 100)).drew.heap.size = q + 3 := by simp; omega
  clear hba hbd x0 hb3 hcr hcr2 hcre d0 d1 d2 d3 d4 k0 k2 k3 HM MKS m0 m1 m2 m3 n0 n1 n2 n3 n0' n1' n2' n3' B2 K2 Z2 GC
  generalize (w2.alloc (.cells #[.int .u32 (hha : Int), .int .u32 (hhb : Int), .int .i64 (cr : Int), .slice none 0 0, .slice none 0 0] 100)).drew = w3 at HX0 B3 K3 Z3 GC3 hz3 ⊢
  have x2 := HX0.out.get 2 rfl
  clear hz2
  by_cases e3 : y4 < 1
  case pos =>
    have e3' : (y4 : Int) < 1 := by omega
    go_upto_region 7 with fail
    go_step
    repeat (first | (refine wpList_store_blk (o := ⟨none, _, 0, _, _, _⟩) 100 (.tmp 6) (.tmp 83) rfl rfl (q + 1) zkept zkept 100 rfl rfl Z3.out rfl (by kernel_rfl) (by simp [zkept, keptV, Value.oneCell']) ?_; intro wE hZE hCE) | go_step)
    refine bodyPost_ret (v := .tuple #[.agg zkept.toArray, .bool false]) (results_blk2 (fn := Tryd.f48) (p := 6) (q := 7) (ty := 100) rfl _ (q + 1) zkept 100 (.bool false) rfl rfl hZE ⟨_, Tryd.underlying100, rfl⟩ (by kernel_rfl)) rfl ?_
    exact image_no (B3.out.trans (hCE.below B3.out.size (by simp; omega))) (HNo.out (by have := HK.out; simp [headOk]; omega))
  have e3' : ¬ ((y4 : Int) < 1) := by omega
  by_cases e4 : 16 < y4
  case pos =>
    have e4' : (16 : Int) < (y4 : Int) := by omega
    go_upto_region 7 with fail
    go_step
    repeat (first | (refine wpList_store_blk (o := ⟨none, _, 0, _, _, _⟩) 100 (.tmp 6) (.tmp 83) rfl rfl (q + 1) zkept zkept 100 rfl rfl Z3.out rfl (by kernel_rfl) (by simp [zkept, keptV, Value.oneCell']) ?_; intro wE hZE hCE) | go_step)
    refine bodyPost_ret (v := .tuple #[.agg zkept.toArray, .bool false]) (results_blk2 (fn := Tryd.f48) (p := 6) (q := 7) (ty := 100) rfl _ (q + 1) zkept 100 (.bool false) rfl rfl hZE ⟨_, Tryd.underlying100, rfl⟩ (by kernel_rfl)) rfl ?_
    exact image_no (B3.out.trans (hCE.below B3.out.size (by simp; omega))) (HNo.out (by have := HK.out; simp [headOk]; omega))
  have e4' : ¬ ((16 : Int) < (y4 : Int)) := by omega
  by_cases e5 : hn = 5 + 2 * y4
  case neg =>
    have e5' : ¬ ((hn : Int) = 5 + 2 * (y4 : Int)) := by omega
    go_upto_region 7 with fail
    go_step
    repeat (first | (refine wpList_store_blk (o := ⟨none, _, 0, _, _, _⟩) 100 (.tmp 6) (.tmp 83) rfl rfl (q + 1) zkept zkept 100 rfl rfl Z3.out rfl (by kernel_rfl) (by simp [zkept, keptV, Value.oneCell']) ?_; intro wE hZE hCE) | go_step)
    refine bodyPost_ret (v := .tuple #[.agg zkept.toArray, .bool false]) (results_blk2 (fn := Tryd.f48) (p := 6) (q := 7) (ty := 100) rfl _ (q + 1) zkept 100 (.bool false) rfl rfl hZE ⟨_, Tryd.underlying100, rfl⟩ (by kernel_rfl)) rfl ?_
    exact image_no (B3.out.trans (hCE.below B3.out.size (by simp; omega))) (HNo.out (by have := HK.out; have := HN.out; simp [headOk]; omega))
  by_cases e6 : 10000 < cr
  case pos =>
    have e5' : ((hn : Int) != 5 + 2 * (y4 : Int)) = false := by simp; omega
    have e6' : (10000 : Int) < (cr : Int) := by omega
    go_upto_region 7 with fail
    go_step
    repeat (first | (refine wpList_store_blk (o := ⟨none, _, 0, _, _, _⟩) 100 (.tmp 6) (.tmp 83) rfl rfl (q + 1) zkept zkept 100 rfl rfl Z3.out rfl (by kernel_rfl) (by simp [zkept, keptV, Value.oneCell']) ?_; intro wE hZE hCE) | go_step)
    refine bodyPost_ret (v := .tuple #[.agg zkept.toArray, .bool false]) (results_blk2 (fn := Tryd.f48) (p := 6) (q := 7) (ty := 100) rfl _ (q + 1) zkept 100 (.bool false) rfl rfl hZE ⟨_, Tryd.underlying100, rfl⟩ (by kernel_rfl)) rfl ?_
    exact image_no (B3.out.trans (hCE.below B3.out.size (by simp; omega))) (HNo.out (by have := HCR.out; simp [headOk]; omega))
  have e5' : ((hn : Int) != 5 + 2 * (y4 : Int)) = false := by simp; omega
  have e6' : ¬ ((10000 : Int) < (cr : Int)) := by omega
  go_upto_region 8 with fail
  clear e5' e6' e3' e4'
  subst e5
  have HX := hid (⟨HX0.out, RO.nil _ _ _ _ _, RO.nil _ _ _ _ _, by simp, fun j hj => by simp [Value.ownBlock] at hj, Chg.refl _ _, by omega⟩ : KeptIn w3 w3 (q + 2) hha hhb (cr : Int) [] [] (.slice none 0 0) (.slice none 0 0))
  clear x2 HX0
  have hy : (y4 : Int) ≤ 16 := by omega
  go_cut [84, 85] from 15 to 83 (fun v84 v85 w' => v84 = .int .i64 (y4 : Int) ∧ v85 = .int .i64 0 ∧ w3 = w')
  case first =>
    go_wp2_with fail
    go_meet
    first | exact ⟨rfl, rfl, rfl⟩ | ((repeat apply Exists.intro); refine ⟨⟨rfl, rfl, rfl⟩, ?_⟩; and_intros <;> rfl)
  obtain ⟨rfl, rfl, rfl⟩ := hcut
  go_wp2_with fail
  go_loopw [11, 12, 13, 14, 85] (fun _ _ _ _ iv wr => IlRel (seeG I.sl I.from') I.used.length ⟨6, hep, hha, hhb, hdat⟩ w3 (q + 2) y4 (cr : Int) iv wr) (fun _ _ _ _ iv _ => y4 - (intOf iv).toNat)
  case atStart => exact ⟨0, [], _, _, rfl, Nat.zero_le _, rfl, HX.out⟩
  case round =>
    obtain ⟨k, ts, bv, av, rfl, hk, hbl, hx⟩ := hrel
    have HBL := hid hbl
    have HXr := hid hx
    clear hbl
    by_cases hlt : k < y4
    · have hlt' : (k : Int) < (y4 : Int) := by omega
      have bsr := bs_keep (bs_keep HD.out (Chg.of_below [] B3.out) (.inr (by simp))) hx.chg (.inr fun x hx hm => by cases hx; have := HBQ.out; simp at hm; omega)
      obtain ⟨b', off', hbe, hcl⟩ := bs_cells bsr (by have := HN.out; omega)
      cases hbe
      have d0 := hcl (5 + 2 * k) (by have := HN.out; omega)
      have d1 := hcl (5 + 2 * k + 1) (by have := HN.out; omega)
      have BSR := hid bsr
      clear hcl bsr hx
      have HP := hid (show placeOf hdat k = (hdat.getD (5 + 2 * k) 0).toNat + 256 * (hdat.getD (5 + 2 * k + 1) 0).toNat from rfl)
      have u0 := (hdat.getD (5 + 2 * k) 0).toNat_lt
      have u1 := (hdat.getD (5 + 2 * k + 1) 0).toNat_lt
      generalize (hdat.getD (5 + 2 * k) 0).toNat = x0 at d0 u0 HP
      generalize (hdat.getD (5 + 2 * k + 1) 0).toNat = x1 at d1 u1 HP
      have hor := or_len x0 x1 (by omega) (by omega)
      have v0 : (x0 : Int) ≤ 255 := by omega
      have v1 : (x1 : Int) ≤ 255 := by omega
      have hin0 : (5 : Int) + 2 * (k : Int) < 5 + 2 * (y4 : Int) := by omega
      have hin1 : (5 : Int) + 2 * (k : Int) + 1 < 5 + 2 * (y4 : Int) := by omega
      clear u0 u1
      go_upto_region 11 with fail
      go_quiet (fail)
      have hplI : (x0 : Int) + 256 * (x1 : Int) = ((placeOf hdat k : Nat) : Int) := by rw [HP.out]; omega
      have hpl6 : placeOf hdat k < 65536 := by rw [HP.out]; omega
      rw [hplI]
      obtain ⟨pl, hpl⟩ : ∃ pl, placeOf hdat k = pl := ⟨_, rfl⟩
      rw [hpl] at hpl6 ⊢
      have HPL := hid hpl
      clear hplI hpl hor d0 d1 hin0 hin1 v0 v1 HP
      have HXd := hid (HXr.out.below (below_drewN (Below.refl _ _) nq))
      generalize wr.drewN nq = wd at HXd ⊢
      have BR := hid (B3.out.trans (HXd.out.chg.below B3.out.size (by intro j hj; simp at hj; omega)))
      have KR := hid (K3.out.keep HXd.out.chg (by simp))
      have ZR := hid (Z3.out.keep HXd.out.chg (by simp))
      have LR := hid (HL.out.below BR.out HL.out.1)
      have hB := hid (blob_calls wd B g d wv c mb fg I ⟨6, hep, hha, hhb, hdat⟩ (some ⟨b, off, none⟩) (5 + 2 * y4) hc pl k (HS.out.below BR.out) (HI.out.below BR.out) hfr hpl6 (by omega) LR.out)
      obtain ⟨R1, hR1⟩ : ∃ R1, blobI (seeG I.sl I.from') I.used.length ⟨6, hep, hha, hhb, hdat⟩ pl k = R1 := ⟨_, rfl⟩
      rw [hR1] at hB
      have HR1 := hid hR1
      clear hR1
      unfold blkCs at hB
      cases R1 with
      | none =>
        go_upto_region 13 with (first | (refine wpList_load_blk (o := ⟨some 107, _, _, _, _, _⟩) 96 (.tmp 4) rfl rfl q _ 96 rfl KR.out ⟨_, Tryd.underlying96, rfl⟩ (by kernel_rfl) ?_) | (go_at_call 86; refine hB.out.mono ?_; rintro e w4 ⟨hb4, rfl⟩; have B4 := hid hb4; clear hb4))
        go_upto_region 14 with fail
        go_step
        repeat (first | (refine wpList_store_blk (o := ⟨none, _, 0, _, _, _⟩) 100 (.tmp 6) (.tmp 115) rfl rfl (q + 1) zkept zkept 100 rfl rfl (ZR.out.below B4.out) rfl (by kernel_rfl) (by simp [zkept, keptV, Value.oneCell']) ?_; intro wE hZE hCE) | go_step)
        refine bodyPost_ret (v := .tuple #[.agg zkept.toArray, .bool false]) (results_blk2 (fn := Tryd.f48) (p := 6) (q := 7) (ty := 100) rfl _ (q + 1) zkept 100 (.bool false) rfl rfl hZE ⟨_, Tryd.underlying100, rfl⟩ (by kernel_rfl)) rfl ?_
        exact image_no ((BR.out.trans (B4.out.mono BR.out.size)).trans (hCE.below (BR.out.trans (B4.out.mono BR.out.size)).size (by simp; omega))) (by rw [← HR0.out]; exact image_none (by show placeOf hdat k = pl; exact HPL.out) HR1.out (by show k < countOf hdat; rw [HK.out]; exact hlt))
      | some p =>
        go_upto_region 15 with (first | (refine wpList_load_blk (o := ⟨some 107, _, _, _, _, _⟩) 96 (.tmp 4) rfl rfl q _ 96 rfl KR.out ⟨_, Tryd.underlying96, rfl⟩ (by kernel_rfl) ?_) | (go_at_call 86; refine hB.out.mono ?_; rintro e w4 ⟨hb4, a4, n4, c4, rfl, hn4, hbs4, hof4⟩; have B4 := hid hb4; have N4 := hid hn4; have BS4 := hid hbs4; have OF4 := hid hof4; clear hb4 hn4 hbs4 hof4))
        obtain ⟨ba, bn, bcp, hbe, hbn, hbc, _⟩ := HXd.out.rb.cs
        obtain ⟨aa, an, acp, hae, han, hac, _⟩ := HXd.out.ra.cs
        subst hbe hae
        have HX4 := hid (HXd.out.below B4.out)
        have x3 := HX4.out.own.get 3 rfl
        have htl : ts.length ≤ 16 := by
          have h1 := (blobsI_some.1 HBL.out).1
          rw [List.length_map] at h1
          omega
        have HTL := hid htl
        have L4 := hid (show CS (w4.alloc (.cells #[.slice a4 n4 c4] 33)) (some ⟨w4.heap.size, 0, none⟩) 1 1 ([(⟨a4, c4, p⟩ : TS)].flatMap tsV) from by have := cs_lit w4 [.slice a4 n4 c4] 33 1 1 rfl (by simp [maxLen]); rw [← N4.out] at this ⊢; exact this)
        clear htl hbn hbc han hac hB
        go_upto_region 16 with (at_builtin; go_must (refine wpList_append_ro tsV_length tsV_one (by decide) (.tmp 118) (.tmp 120) _ rfl rfl w3.heap.size 33 _ 24 info_slb rfl under_slbs _ ts (HX4.out.rb.below (below_alloc w4 _)) rfl (l' := [⟨a4, c4, p⟩]) rfl L4.out (Nat.le_refl _) rfl (by have := HTL.out; simp; omega) (Nat.le_trans HX4.out.chg.size (below_alloc w4 _).size) ?_; intro v5 w5 ho5 hb5 hg5 hv5; obtain ⟨a5, n5, c5, e5, _, _, _⟩ := ho5.cs; subst e5; have O5 := hid ho5; have G5 := hid hg5; have V5 := hid hv5; have X5 := hid ((HX4.out.own.below (below_alloc w4 _)).keep (chg_grown hg5) (fun hm => by have := (HX4.out.rb.ownBlock _ (show (Value.slice ba bn bcp).ownBlock = some (q + 2) by simpa using hm)).1; have := HX4.out.lt; omega)); have f3 := X5.out.free 3; have g3 := X5.out.get 3 rfl; clear ho5 hb5 hg5 hv5))
        have HX6 := hid (HXd.out.blob (B4.out.trans ((below_alloc w4 (.cells #[.slice a4 n4 c4] 33)).mono B4.out.size)) ⟨a4, c4, p⟩ (bs_keep BS4.out (Chg.of_below [] (below_alloc w4 _)) (.inr (by simp))) (fun x hx => ⟨(OF4.out x hx).1, Nat.lt_of_lt_of_le (OF4.out x hx).2 (below_alloc w4 _).size⟩) O5.out G5.out V5.out)
        clear x3 f3 g3
        generalize w5.setCell ⟨q + 2, 3, none⟩ (.slice a5 n5 c5) = w6 at HX6 ⊢
        have x4 := HX6.out.own.get 4 rfl
        have L6 := hid (show CS (w6.alloc (.cells #[.int .i64 (pl : Int)] 3)) (some ⟨w6.heap.size, 0, none⟩) 1 1 ([pl].flatMap aV) from cs_lit w6 [.int .i64 (pl : Int)] 3 1 1 rfl (by simp [maxLen]))
        go_upto_region 17 with (at_builtin; go_must (refine wpList_append_ro aV_length aV_one (by decide) (.tmp 125) (.tmp 127) _ rfl rfl w3.heap.size 3 _ 8 info_intM rfl under_intsM _ ((List.range k).map (placeOf hdat)) (HX6.out.ra.below (below_alloc w6 _)) rfl (l' := [pl]) rfl L6.out (Nat.le_refl _) rfl (by simp; omega) (Nat.le_trans HX6.out.chg.size (below_alloc w6 _).size) ?_; intro v7 w7 ho7 hb7 hg7 hv7; obtain ⟨a7, n7, c7, e7, _, _, _⟩ := ho7.cs; subst e7; have O7 := hid ho7; have G7 := hid hg7; have V7 := hid hv7; have X7 := hid ((HX6.out.own.below (below_alloc w6 _)).keep (chg_grown hg7) (fun hm => by have := (HX6.out.ra.ownBlock _ (show (Value.slice aa an acp).ownBlock = some (q + 2) by simpa using hm)).1; have := HX6.out.lt; omega)); have f4 := X7.out.free 4; have g4 := X7.out.get 4 rfl; clear ho7 hb7 hg7 hv7))
        have HX8 := hid (HX6.out.place (below_alloc w6 (.cells #[.int .i64 (pl : Int)] 3)) pl O7.out G7.out V7.out)
        clear x4 f4 g4
        generalize w7.setCell ⟨q + 2, 4, none⟩ (.slice a7 n7 c7) = w8 at HX8 ⊢
        have R : IlRel (seeG I.sl I.from') I.used.length ⟨6, hep, hha, hhb, hdat⟩ w3 (q + 2) y4 (cr : Int) (.int .i64 ((k : Int) + 1)) w8 := by
          have e1 : (List.range (k + 1)).map (placeOf hdat) = (List.range k).map (placeOf hdat) ++ [pl] := by rw [List.range_succ, List.map_append, ← HPL.out]; rfl
          refine ⟨k + 1, ts ++ [⟨a4, c4, p⟩], .slice a5 n5 c5, .slice a7 n7 c7, rfl, hlt, ?_, ?_⟩
          · show (blobsI (seeG I.sl I.from') I.used.length ⟨6, hep, hha, hhb, hdat⟩ k).bind _ = _
            rw [HBL.out]
            show (blobI (seeG I.sl I.from') I.used.length ⟨6, hep, hha, hhb, hdat⟩ (placeOf hdat k) k).map _ = _
            rw [HPL.out, HR1.out, List.map_append]
            rfl
          · show KeptIn w3 w8 (q + 2) hha hhb (cr : Int) _ ((List.range (k + 1)).map (placeOf hdat)) _ _
            rw [e1]; exact HX8.out
        go_wp2_with fail
        refine ⟨?_, by simp [intOf]; omega⟩
        first | exact R | ((repeat apply Exists.intro); refine ⟨R, ?_⟩; and_intros <;> rfl)
    · have hlt' : ¬ ((k : Int) < (y4 : Int)) := by omega
      obtain rfl : k = y4 := by omega
      obtain ⟨ba, bn, bcp, hbe, hbn, hbc, hbcs⟩ := hx.rb.cs
      obtain ⟨aa, an, acp, hae, han, hac, _⟩ := hx.ra.cs
      subst hbe hae
      clear hx hbn hbc hbcs han hac
      have x4 := HXr.out.own.get 4 rfl
      go_upto_region 18 with fail
      have L6 := hid (show CS (wr.alloc (.cells #[.int .i64 (at' : Int)] 3)) (some ⟨wr.heap.size, 0, none⟩) 1 1 ([at'].flatMap aV) from cs_lit wr [.int .i64 (at' : Int)] 3 1 1 rfl (by simp [maxLen]))
      go_upto_region 19 with (at_builtin; go_must (refine wpList_append_ro aV_length aV_one (by decide) (.tmp 132) (.tmp 134) _ rfl rfl w3.heap.size 3 _ 8 info_intM rfl under_intsM _ ((List.range k).map (placeOf hdat)) (HXr.out.ra.below (below_alloc wr _)) rfl (l' := [at']) rfl L6.out (Nat.le_refl _) rfl (by simp; omega) (Nat.le_trans HXr.out.chg.size (below_alloc wr _).size) ?_; intro v7 w7 ho7 hb7 hg7 hv7; obtain ⟨a7, n7, c7, e7, _, _, _⟩ := ho7.cs; subst e7; have O7 := hid ho7; have G7 := hid hg7; have V7 := hid hv7; have X7 := hid ((HXr.out.own.below (below_alloc wr _)).keep (chg_grown hg7) (fun hm => by have := (HXr.out.ra.ownBlock _ (show (Value.slice aa an acp).ownBlock = some (q + 2) by simpa using hm)).1; have := HXr.out.lt; omega)); have f4 := X7.out.free 4; have g4 := X7.out.get 4 rfl; clear ho7 hb7 hg7 hv7))
      have HX8 := hid (HXr.out.place (below_alloc wr (.cells #[.int .i64 (at' : Int)] 3)) at' O7.out G7.out V7.out)
      clear x4 f4 g4
      generalize w7.setCell ⟨q + 2, 4, none⟩ (.slice a7 n7 c7) = w8 at HX8 ⊢
      have hl := (blobsI_some.1 HBL.out).1
      rw [List.length_map] at hl
      obtain ⟨en, hen, hV, hAt⟩ := HX8.out.ent (by omega) (by simp) w3.heap.size (Nat.le_refl _)
      have BR := hid (B3.out.trans (HX8.out.chg.below B3.out.size (by intro j hj; simp at hj; omega)))
      have ZR := hid (Z3.out.keep HX8.out.chg (by simp))
      have HEN := hid hen
      have HVV := hid hV
      have HAT := hid hAt
      clear hen hV hAt hl
      repeat (first | (refine wpList_load_blk (o := ⟨some 137, _, _, _, _, _⟩) 100 (.tmp 10) rfl rfl (q + 2) _ 100 rfl HX8.out.own ⟨_, Tryd.underlying100, rfl⟩ (by kernel_rfl) ?_) | (refine wpList_store_blk (o := ⟨none, _, 0, _, _, _⟩) 100 (.tmp 6) (.tmp 137) rfl rfl (q + 1) zkept _ 100 rfl rfl ZR.out rfl (by kernel_rfl) (by simp [keptV, Value.oneCell']) ?_; intro wE hZE hCE) | go_step)
      have hZE' : Blk wE (q + 1) (keptV hha hhb (cr : Int) (.slice ba bn bcp) (.slice a7 n7 c7)) 100 := hZE
      refine bodyPost_ret (v := .tuple #[.agg (keptV hha hhb (cr : Int) (.slice ba bn bcp) (.slice a7 n7 c7)).toArray, .bool true]) (results_blk2 (fn := Tryd.f48) (p := 6) (q := 7) (ty := 100) rfl _ (q + 1) _ 100 (.bool true) rfl rfl hZE' ⟨_, Tryd.underlying100, rfl⟩ (by kernel_rfl)) rfl ?_
      have hR : R0 = some en.x := by
        rw [← HR0.out, HEN.out]
        unfold imageI
        rw [if_pos (headOk_iff.2 ⟨rfl, e1, HL5.out, by show creditOf hdat ≤ 10000; rw [HCR.out]; omega, by show 1 ≤ countOf hdat; rw [HK.out]; omega, by show countOf hdat ≤ 16; rw [HK.out]; omega, by show hdat.length = 5 + 2 * countOf hdat; rw [HK.out]; exact HN.out⟩)]
        show (blobsI (seeG I.sl I.from') I.used.length ⟨6, hep, hha, hhb, hdat⟩ (countOf hdat)).map _ = _
        rw [HK.out, HBL.out]
        show some (⟨hha, hhb, (creditOf hdat : Int), ts.map TS.p, (List.range k).map (placeOf hdat) ++ [at']⟩ : Img) = _
        rw [HCR.out]
      rw [hR]
      have hbE := hCE.below BR.out.size (by intro j hj; simp at hj; omega)
      refine ⟨BR.out.trans hbE, en, rfl, by rw [show keptV hha hhb (cr : Int) (.slice ba bn bcp) (.slice a7 n7 c7) = en.V from HVV.out], HAT.out.keep hCE (fun j hj hq => by have := hq.1; simp at hj; omega) (fun j hj => ⟨Nat.le_trans B3.out.size hj.1, Nat.lt_of_lt_of_le hj.2 hCE.size⟩)⟩
end Go.Proofs.YtoapibbbooongaaDoor
