/- The walks of layer 6: blocks on a slab that the call made; the document's examples. -/
import Derived.Test.YtkaidbfpgdfpfaaDoorBlkI
import Derived.Test.YtkaidbfpgdfpfaaDoorBlkJ
import Derived.Test.YtkaidbfpgdfpfaaDoorBlkRootM
import Derived.Lib.SlBytesConst
namespace Go.Proofs.YtkaidbfpgdfpfaaDoor
open Go.RowKit Go.Quad _root_.Quad _root_.Quad.Slab

theorem sa_bput (w0 w : World) (g : Nat) (s : Sl) (i : Int) (da : Option Addr) (dn dc : Nat) (x : BlkD) (h : SA w0 g s w) (hi : -9223372036854775808 ≤ i ∧ i ≤ 9223372036854775807) (hx : x.Ok)
    (hd : BS w da dc x.data) (hn : x.data.length = dn) (hq : Laid w) (hs : s.steps < 1000000) (hw : s.way.length < 1000000) :
    Calls Tryd.prog 21 #[.pointer (some ⟨g, 0, none⟩), .int .i64 i, .agg #[.int .u8 (x.kind : Int), .int .u32 (x.epoch : Int), .int .u32 (x.a : Int), .int .u32 (x.b : Int), .slice da dn dc]] w fun e w' => e = .returned (.int .i64 ((putB s i x).2 : Int)) ∧ SA w0 g (putB s i x).1 w' := by
  obtain ⟨⟨d, wv, h1⟩, h2⟩ := h
  exact (put_any w w0.heap.size g d wv s i da dn dc x h1 hi hx hd hn hq hs hw).mono fun e w' ht => SA.to h1 h2 ht
theorem sa_bget (w0 w : World) (g : Nat) (s : Sl) (i : Int) (h : SA w0 g s w) (hi : -9223372036854775808 ≤ i ∧ i ≤ 9223372036854775807) (hq : Laid w) :
    Calls Tryd.prog 12 #[.pointer (some ⟨g, 0, none⟩), .int .i64 i] w (BGetTo w (getB s i)) := by
  obtain ⟨⟨d, wv, h1⟩, h2⟩ := h
  exact bget_calls w w0.heap.size g d wv s i h1 hi hq
theorem sa_store (w0 w : World) (g : Nat) (s : Sl) (r : RootD) (h : SA w0 g s w) (hr : r.Ok) (hq : Laid w) (hs : s.steps + 1 < 1000000) (hw : s.way.length < 1000000) :
    Calls Tryd.prog 26 #[.pointer (some ⟨g, 0, none⟩), .agg #[.int .u32 (r.turn : Int), .int .u32 (r.epoch : Int), .int .u32 (r.gen : Int), .int .u8 (r.area : Int)]] w fun e w' => e = .returned (.int .i64 ((storeB s r).2 : Int)) ∧ SA w0 g (storeB s r).1 w' := by
  obtain ⟨⟨d, wv, h1⟩, h2⟩ := h
  exact (store_calls w w0.heap.size g d wv s r h1 hr hq hs hw).mono fun e w' ht => SA.to h1 h2 ht
theorem sa_load (w0 w : World) (g : Nat) (s : Sl) (h : SA w0 g s w) (hq : Laid w) :
    Calls Tryd.prog 28 #[.pointer (some ⟨g, 0, none⟩)] w (LoadTo w (loadB s)) := by
  obtain ⟨⟨d, wv, h1⟩, h2⟩ := h
  exact load_calls w w0.heap.size g d wv s h1 hq
theorem SA.laid {w0 w : World} {g : Nat} {s : Sl} (h : SA w0 g s w) (hq : Laid w0) : Laid w := hq.below h.2 hq.1

/-! what is put is got -/
theorem putB_len (s : Sl) (i : Int) (x : BlkD) : (putB s i x).1.done = s.done := by
  unfold putB
  split
  · rfl
  · split
    · rfl
    · split
      · rfl
      · unfold writeL
        split
        · rfl
        · rfl
theorem seen_last (s : Sl) (k i : Nat) (p : Bytes) : seenL { s with way := s.way ++ [(k, p)] } i = if k = i then p else seenL s i := by
  unfold seenL
  dsimp only
  rw [List.foldl_append]
  rfl
theorem putB_yes {s : Sl} {k : Nat} {x : BlkD} (hk : k < s.done.length) (hl : x.data.length ≤ 104) (h0 : x.kind ≠ 0) (ho : s.off = false) :
    putB s (k : Int) x = ({ stepL s with way := s.way ++ [(k, encB x)] }, if (stepL s).off then 13 else 0) := by
  have hlen := encB_length (x := x) (by omega)
  unfold putB
  rw [if_neg (by omega), if_neg (by omega), if_neg h0]
  unfold writeL
  rw [if_neg (by rw [hasL_zero hk (by omega) ho]; simp), Int.toNat_natCast, pad_full hlen]
theorem getB_put {s : Sl} {k : Nat} {x : BlkD} (hk : k < s.done.length) (hx : x.Ok) (hl : x.data.length ≤ 104) (h0 : x.kind ≠ 0) (ho : s.off = false) (hs : (stepL s).off = false) : getB (putB s (k : Int) x).1 (k : Int) = (x, 0) := by
  rw [putB_yes hk hl h0 ho]
  show getB { stepL s with way := s.way ++ [(k, encB x)] } (k : Int) = _
  rw [getB_at (s := { stepL s with way := s.way ++ [(k, encB x)] }) hk hs]
  have e : seenL { stepL s with way := s.way ++ [(k, encB x)] } k = encB x := by
    have := seen_last (stepL s) k k (encB x)
    rw [if_pos rfl] at this
    exact this
  rw [e]
  exact readB_enc hx h0 hl
def awX : BlkD := ⟨7, 1, 2, 3, [97, 98]⟩
theorem awX_ok : awX.Ok := ⟨by show 7 < 256; omega, by show 1 < 4294967296; omega, by show 2 < 4294967296; omega, by show 3 < 4294967296; omega⟩
theorem aw_put : (putB (newL 4) 3 awX).2 = 0 ∧ getB (putB (newL 4) 3 awX).1 3 = (awX, 0) := by
  have e := putB_yes (s := newL 4) (k := 3) (x := awX) (by show 3 < 4; omega) (by show 2 ≤ 104; omega) (by show (7 : Nat) ≠ 0; omega) rfl
  have e3 : ((3 : Nat) : Int) = 3 := rfl
  have g := getB_put (s := newL 4) (k := 3) (x := awX) (by show 3 < 4; omega) awX_ok (by show 2 ≤ 104; omega) (by show (7 : Nat) ≠ 0; omega) rfl rfl
  rw [e3] at e g
  exact ⟨by rw [e]; rfl, g⟩
theorem free_rep {n i : Nat} (h : i ≤ n) : (freeP (List.replicate n false) i).length = i := by
  have hf : freeP (List.replicate n false) i = List.range i := by
    unfold freeP
    rw [List.filter_eq_self]
    intro x hx
    have hx := List.mem_range.1 hx
    rw [List.getD_eq_getElem?_getD, List.getElem?_replicate, if_pos (by omega)]
    rfl
  rw [hf, List.length_range]

theorem lit_markedB (w : World) (l : List UInt8) (hm : l.length ≤ maxLen) (fr : Nat × Nat) : BS (w.alloc (.cells (l.map u8v).toArray 5 fr)) (some ⟨w.heap.size, 0, none⟩) l.length l :=
  BS.of_row rfl (Nat.le_refl _) hm fun i hi => by
    have hh : (w.alloc (.cells (l.map u8v).toArray 5 fr)).heap[w.heap.size]? = some (.cells (l.map u8v).toArray 5 fr) := heap_alloc_new w _
    unfold World.cell?
    rw [hh]
    simp [hi, u8v]
set_option maxRecDepth 100000 in
set_option maxHeartbeats 2000000 in
theorem bawake_calls (w : World) (hq : Laid w) : Calls Tryd.prog 9 #[] w fun e w' => e = .returned (.bool true) ∧ Below w.heap.size w w' := by
  have HQ := hid hq
  clear hq
  have kc := fun (w : World) => Lib.run_convert_bytes_const (P := Tryd.prog) w 22 5 #[.int .u8 97, .int .u8 98] 2 2 under_bytes under_u8
  go_enter Tryd.func9, Tryd.ntmps9
  go_wp2_with fail
  refine (sa_new w 4 (by decide)).mono ?_
  rintro e w1 ⟨g, rfl, h1⟩
  have H1 := hid h1
  clear h1
  go_wp2_with fail
  have hlit := lit_markedB w1 [97, 98] (by simp [maxLen]) (2, 3)
  have hP := sa_bput w _ g (newL 4) 3 _ 2 2 awX (H1.out.below (below_alloc w1 _)) (by omega) awX_ok hlit rfl ((H1.out.laid HQ.out).below (below_alloc w1 _) (H1.out.laid HQ.out).1) (by decide) (by decide)
  rw [aw_put.1] at hP
  refine (show Calls Tryd.prog 21 #[.pointer (some ⟨g, 0, none⟩), .int .i64 3, .agg #[.int .u8 7, .int .u32 1, .int .u32 2, .int .u32 3, .slice (some ⟨w1.heap.size, 0, none⟩) 2 2]] (w1.alloc (.cells #[.int .u8 97, .int .u8 98] 5 (2, 3))) _ from hP).mono ?_
  rintro e w2 ⟨rfl, h2⟩
  have H2 := hid h2
  clear h2 hlit hP
  go_upto_region 4 with fail
  have hG := sa_bget w w2 g _ 3 H2.out (by omega) (H2.out.laid HQ.out)
  rw [aw_put.2] at hG
  have HG := hid hG
  clear hG
  go_upto_region 5 with (first | (refine wpListQ_alloc (o := ⟨some 3, _, _, _, _, _⟩) 31 rfl rfl zblk 5 info_blk ?_) | (refine wpListQ_store_new (o := ⟨none, _, 0, _, _, _⟩) rfl 31 (.tmp 3) (.tmp 21) rfl zblk #[.int .u8 7, .int .u32 1, .int .u32 2, .int .u32 3, .slice a3 n3 c3] rfl rfl size_blk rfl (all_oneCell_toArray (by intro u hu; simp only [List.mem_cons, List.not_mem_nil, or_false] at hu; rcases hu with rfl | rfl | rfl | rfl | rfl <;> rfl)) ?_) | (go_at_call 12; refine HG.out.mono ?_; rintro e w3 ⟨a3, n3, c3, rfl, hn3, hO3, hb3⟩; dsimp only [awX] at hn3 hO3; dsimp only [awX]; have N3 := hid hn3; have O3 := hid hO3; have B3 := hid hb3; clear hn3 hO3 hb3))
  obtain rfl : n3 = 2 := N3.out.symm
  have hb4 := below_alloc w3 (.cells #[.int .u8 7, .int .u32 1, .int .u32 2, .int .u32 3, .slice a3 2 c3] 31)
  have K4 := hid (blk_alloc w3 [.int .u8 7, .int .u32 1, .int .u32 2, .int .u32 3, .slice a3 2 c3] 31)
  have O4 := hid (O3.out.below hb4)
  have B4 := hid ((H2.out.2.trans (B3.out.mono H2.out.2.size)).trans (hb4.mono (Nat.le_trans H2.out.2.size B3.out.size)))
  generalize (w3.alloc (.cells #[.int .u8 7, .int .u32 1, .int .u32 2, .int .u32 3, .slice a3 2 c3] 31)) = w4 at K4 O4 B4 hb4 ⊢
  obtain ⟨q, hqq⟩ : ∃ q, w3.heap.size = q := ⟨_, rfl⟩
  rw [hqq] at K4 ⊢
  clear hb4 O3 B3 hqq HG
  go_upto_region 6 with fail
  refine (newmap_calls w4 3 (by decide)).mono ?_
  rintro e w5 ⟨mg, md, rfl, hm, hb5, hmg, hmd⟩
  have M5 := hid hm
  have K5 := hid (K4.out.below hb5)
  have O5 := hid (O4.out.below hb5)
  have B5 := hid (B4.out.trans (hb5.mono B4.out.size))
  have G5 := hid (And.intro hmg hmd)
  have KL := hid K4.out.lt
  have OQ := hid O4.out
  have BQ := hid B4.out.size
  clear hm hb5 hmg hmd K4 O4 B4
  go_upto_region 6 with fail
  have hT := take_calls w5 mg md (List.replicate 3 false) 2 M5.out (by rw [left_rep]; omega)
  go_upto_region 7 with (go_at_call 18; refine (show Calls Tryd.prog 18 #[.pointer (some ⟨mg, 0, none⟩), .int .i64 2] w5 _ from hT).mono ?_; rintro e w6 ⟨ta, tc, ti, rfl, hti, htf, hto, htm, htc⟩; have T1 := hid hti; have T2 := hid htf; have M6 := hid htm; have C6 := hid htc; clear hti htf hto htm htc)
  clear hT
  obtain rfl : ti = 2 := by have h1 := T1.out; have h2 := T2.out; rw [free_rep (by simpa using h1)] at h2; exact h2
  have K6 := K5.out.keep C6.out (by have := KL.out; have := G5.out.1; have := G5.out.2; simp; omega)
  have O6 := O5.out.chg C6.out (fun k hk hm => by have h1 := OB.ownLt O5.out hk; have h3 := OB.ownLt OQ.out hk; have := G5.out.1; have := G5.out.2; simp at hm; omega)
  have cv : (convert 22 9 (.slice a3 2 c3)).run Tryd.prog w6 = .ok (.string ⟨#[97, 98]⟩) w6 := run_convert_b (P := Tryd.prog) 22 9 5 under_bytes under_u8 under_str O6.bsN
  have B6 := hid (B5.out.trans (C6.out.below B5.out.size (by have := G5.out.1; have := G5.out.2; have := BQ.out; simp; omega)))
  have c0 := K6.get 0 rfl
  have c4 := K6.get 4 rfl
  have hF := free_calls w6 mg md _ 0 M6.out
  have hm2 : markM (mkM (List.replicate 3 false) 2) 0 false = ([false, true, false], true) := by decide
  rw [hm2] at hF
  have HF := hid hF
  clear hF hm2 K6 O6
  go_wp2_with (first | (go_at_call 17; refine HF.out.mono ?_; rintro e w7 ⟨rfl, hm7, hc7⟩; have M7 := hid hm7; have C7 := hid hc7; clear hm7 hc7; dsimp only) | (go_at_call 19; refine (left_calls w7 mg md _ M7.out).mono ?_; rintro e w8 ⟨rfl, rfl⟩; rw [show leftM [false, true, false] = 2 from rfl]))
  go_ret
  exact ⟨rfl, B6.out.trans (C7.out.below B6.out.size (by have := G5.out.1; have := G5.out.2; have := BQ.out; simp; omega))⟩
end Go.Proofs.YtkaidbfpgdfpfaaDoor
