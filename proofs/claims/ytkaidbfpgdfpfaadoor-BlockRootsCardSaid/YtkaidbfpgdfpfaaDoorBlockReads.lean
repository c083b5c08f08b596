/- BlockReads: every sector of any bytes is a block, or isn't, or is empty. -/
import Derived.Test.YtkaidbfpgdfpfaaDoorBlkK
namespace Go.Proofs.YtkaidbfpgdfpfaaDoor
open Go.RowKit Go.Quad _root_.Quad _root_.Quad.Slab

theorem pmin128 (n : Nat) : (if 128 < (n : Int) then 128 else (n : Int)) = ((min n 128 : Nat) : Int) := by split <;> omega
theorem new_small (n : Nat) : (newL n).steps < 1000000 ∧ (newL n).way.length < 1000000 := ⟨by show 0 < 1000000; omega, by show 0 < 1000000; omega⟩
theorem one_get (t : Bytes) (h : t.length ≤ 128) : getB (writeL (newL 1) 0 t).1 0 = readB (pad t) := by
  rw [te1 t h]
  have := getB_at (s := ⟨[List.replicate 128 0], [(0, pad t)], false, 0, 1⟩) (i := 0) (by show 0 < 1; omega) rfl
  exact this
def BrdTo (w : World) (e : Ending) (w' : World) : Prop := e = .returned (.bool true) ∧ Below w.heap.size w w'

set_option maxRecDepth 100000 in
set_option maxHeartbeats 2000000 in
theorem blockReads_walk (a0 : Option Addr) (c0 : Nat) (l0 : List UInt8) (w : World) (h0 : BS w a0 c0 l0) (hq : Laid w) :
    Calls Tryd.prog 3 #[.slice a0 l0.length c0] w (BrdTo w) := by
  have hm := h0.max'
  have hf := h0.fit'
  obtain ⟨k, hk⟩ : ∃ k, min l0.length 128 = k := ⟨_, rfl⟩
  have hpm := pmin128 l0.length
  rw [hk] at hpm
  have HP := hid hpm
  have hk1 : k ≤ l0.length := by omega
  have hk2 : k ≤ 128 := by omega
  have hkc : (k : Int) ≤ (c0 : Int) := by omega
  obtain ⟨t, ht⟩ : ∃ t, l0.take k = t := ⟨_, rfl⟩
  have HT := hid (show t.length = k from by rw [← ht, List.length_take]; omega)
  have T0 := hid (show BS w a0 c0 t from by rw [← ht]; exact h0.take k)
  have HK2 := hid hk2
  have HQ := hid hq
  have hkb : (k : Int) ≤ 128 := by omega
  clear hk ht hpm h0 hq
  go_enter Tryd.func3, Tryd.ntmps3
  go_wp2_with fail
  refine (bawake_calls w HQ.out).mono ?_
  rintro e w1 ⟨rfl, hb1⟩
  have B1 := hid hb1
  clear hb1
  go_upto_region 3 with fail
  have m0 := HP.out
  go_upto_region 4 with fail
  clear m0
  go_wp2_with fail
  refine (sa_new _ 1 (by decide)).mono ?_
  rintro e w2 ⟨g, rfl, h2⟩
  have S2 := hid h2
  clear h2
  have L2 := hid (S2.out.laid (HQ.out.below B1.out HQ.out.1))
  have hW := sa_write w1 w2 g (newL 1) 0 a0 c0 t S2.out (by omega) ((T0.out.below B1.out).below S2.out.2) (new_small 1).1 (new_small 1).2 (SA.off_old T0.out B1.out.size)
  rw [HT.out] at hW
  have HW := hid hW
  clear hW
  obtain ⟨X, hX⟩ : ∃ X, readB (pad t) = X := ⟨_, rfl⟩
  have HG := hid (show getB (writeL (newL 1) 0 t).1 0 = X from (one_get t (by rw [HT.out]; exact HK2.out)).trans hX)
  have HX := hid hX
  clear hX
  obtain ⟨x, ev⟩ := X
  go_upto_region 7 with (first | (go_at_call 11; refine HW.out.mono ?_; rintro e w3 ⟨rfl, h3⟩; have S3 := hid h3; clear h3) | (go_at_call 12; refine (sa_bget w1 w3 g _ 0 S3.out (by omega) (S3.out.laid (HQ.out.below B1.out HQ.out.1))).mono ?_; rw [HG.out]; rintro e w4 ⟨a5, n5, c5, rfl, hn5, hO5, hb5⟩; dsimp only at hn5 hO5; dsimp only; have N5 := hid hn5; have O5 := hid hO5; have B5 := hid (S3.out.2.trans (hb5.mono S3.out.2.size)); clear hn5 hO5 hb5) | (refine wpListQ_alloc (o := ⟨some 5, _, _, _, _, _⟩) 31 rfl rfl zblk 5 info_blk ?_) | (refine wpListQ_store_new (o := ⟨none, _, 0, _, _, _⟩) rfl 31 (.tmp 5) (.tmp 26) rfl zblk #[.int .u8 (x.kind : Int), .int .u32 (x.epoch : Int), .int .u32 (x.a : Int), .int .u32 (x.b : Int), .slice a5 n5 c5] rfl rfl size_blk rfl (all_oneCell_toArray (by intro u hu; simp only [List.mem_cons, List.not_mem_nil, or_false] at hu; rcases hu with rfl | rfl | rfl | rfl | rfl <;> rfl)) ?_))
  have hb5 := below_alloc w4 (.cells #[.int .u8 (x.kind : Int), .int .u32 (x.epoch : Int), .int .u32 (x.a : Int), .int .u32 (x.b : Int), .slice a5 n5 c5] 31)
  have K5 := hid (blk_alloc w4 [.int .u8 (x.kind : Int), .int .u32 (x.epoch : Int), .int .u32 (x.a : Int), .int .u32 (x.b : Int), .slice a5 n5 c5] 31)
  replace O5 := hid (O5.out.below hb5)
  replace B5 := hid (B1.out.trans ((B5.out.trans (hb5.mono B5.out.size)).mono B1.out.size))
  generalize (w4.alloc (.cells #[.int .u8 (x.kind : Int), .int .u32 (x.epoch : Int), .int .u32 (x.a : Int), .int .u32 (x.b : Int), .slice a5 n5 c5] 31)) = w5 at K5 O5 B5 hb5 ⊢
  obtain ⟨q5, hq5⟩ : ∃ q5, w4.heap.size = q5 := ⟨_, rfl⟩
  rw [hq5] at K5 ⊢
  clear hb5 hq5 HW S2 L2
  have T5 := hid (T0.out.below B5.out)
  have e0 : t ++ List.replicate (128 - k) 0 = pad t := by unfold pad; rw [HT.out]
  have E0 := hid e0
  clear e0
  go_upto_region 8 with (first
    | (at_builtin; refine wpList_append_lit0 (.tmp 29) (.tmp 30) _ rfl rfl 5 info_u8 under_bytes rfl T5.out k HT.out rfl (by rw [HT.out]; omega) ?_; intro v6 w6 ho hb; obtain ⟨a6, n6, c6, e6, hl6, _, _⟩ := ob_n ho; obtain rfl : k = n6 := (by rw [← hl6, HT.out]); subst e6; have O6 := hid ho; have B6 := hid hb; clear ho hb hl6)
    | (at_builtin; refine wpList_append_zeros_b (.tmp 31) (.tmp 34) 22 3 rfl rfl w5.heap.size 5 .i64 info_u8 under_bytes (by kernel_rfl) _ t O6.out rfl (128 - k) (show _ = Value.int .i64 (((128 - k : Nat)) : Int) from congrArg (Value.int .i64) (by have := HK2.out; omega)) (by rw [HT.out]; omega) B6.out.size ?_; intro v7 w7 ho7 hg7 hx7; have B7 := hid (B6.out.trans (grown_own O6.out B6.out.size hg7)); rw [E0.out] at ho7; obtain ⟨b7, cc7, e7, hs7, _, _, hc7⟩ := ob_128 ho7 (pad_length (by rw [HT.out]; exact HK2.out)); subst e7; have HR := hid (rread_calls w7 b7 cc7 (pad t) hs7 (pad_length (by rw [HT.out]; exact HK2.out)) hc7); rw [HX.out] at HR; clear ho7 hg7 hx7 hs7 hc7)
    | (go_at_call 13; refine HR.out.mono ?_; rintro e w8 ⟨a7, n7, c7, rfl, hn7, hO7, hb7⟩; dsimp only at hn7 hO7; dsimp only; have N7 := hid hn7; have O7 := hid hO7; have B8 := hid (B7.out.trans (hb7.mono B7.out.size)); clear hn7 hO7 hb7)
    | (refine wpListQ_alloc (o := ⟨some 7, _, _, _, _, _⟩) 34 rfl rfl zblk 5 info_rblk ?_) | (refine wpListQ_store_new (o := ⟨none, _, 0, _, _, _⟩) rfl 34 (.tmp 7) (.tmp 37) rfl zblk #[.int .u8 (x.kind : Int), .int .u32 (x.epoch : Int), .int .u32 (x.a : Int), .int .u32 (x.b : Int), .slice a7 n7 c7] rfl rfl size_rblk rfl (all_oneCell_toArray (by intro u hu; simp only [List.mem_cons, List.not_mem_nil, or_false] at hu; rcases hu with rfl | rfl | rfl | rfl | rfl <;> rfl)) ?_))
  have hb8 := below_alloc w8 (.cells #[.int .u8 (x.kind : Int), .int .u32 (x.epoch : Int), .int .u32 (x.a : Int), .int .u32 (x.b : Int), .slice a7 n7 c7] 34)
  have K7 := hid (blk_alloc w8 [.int .u8 (x.kind : Int), .int .u32 (x.epoch : Int), .int .u32 (x.a : Int), .int .u32 (x.b : Int), .slice a7 n7 c7] 34)
  have hb9 := B8.out.trans (hb8.mono B8.out.size)
  replace K5 := hid (K5.out.below hb9)
  replace O5 := hid (O5.out.below hb9)
  replace O7 := hid (O7.out.below hb8)
  replace B5 := hid (B5.out.trans (hb9.mono B5.out.size))
  generalize (w8.alloc (.cells #[.int .u8 (x.kind : Int), .int .u32 (x.epoch : Int), .int .u32 (x.a : Int), .int .u32 (x.b : Int), .slice a7 n7 c7] 34)) = w9 at K5 K7 O5 O7 B5 hb8 hb9 ⊢
  obtain ⟨q7, hq7⟩ : ∃ q7, w8.heap.size = q7 := ⟨_, rfl⟩
  rw [hq7] at K7 ⊢
  clear hb8 hb9 hq7 HR O6 B6 B7 B8 T5
  have ev0 : ((ev : Int) == (ev : Int)) = true := by simp
  go_wp2_with (first
    | (refine wpList_load_blk (o := ⟨some 39, _, _, _, _, _⟩) 31 (.tmp 5) rfl rfl q5 [.int .u8 (x.kind : Int), .int .u32 (x.epoch : Int), .int .u32 (x.a : Int), .int .u32 (x.b : Int), .slice a5 n5 c5] 31 rfl K5.out ⟨_, Tryd.underlying31, rfl⟩ size_blk ?_)
    | (refine wpList_load_blk (o := ⟨some 40, _, _, _, _, _⟩) 34 (.tmp 7) rfl rfl q7 [.int .u8 (x.kind : Int), .int .u32 (x.epoch : Int), .int .u32 (x.a : Int), .int .u32 (x.b : Int), .slice a7 n7 c7] 34 rfl K7.out ⟨_, Tryd.underlying34, rfl⟩ size_rblk ?_)
    | (go_at_call 14; refine (rsame_calls w9 x a5 a7 n5 n7 c5 c7 O5.out.bsN N5.out O7.out.bsN N7.out).mono ?_; rintro e w10 ⟨rfl, hb10⟩; have B10 := hid hb10; clear hb10))
  go_ret
  exact ⟨rfl, B5.out.trans (B10.out.mono B5.out.size)⟩
end Go.Proofs.YtkaidbfpgdfpfaaDoor
