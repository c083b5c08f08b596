/- The walks of layer 2: Untie; a text too long; the reference's knot. -/
import Derived.Test.YtmmcmldcbdaooaaDoorKnotF
namespace Go.Proofs.YtmmcmldcbdaooaaDoor
open Go.RowKit Go.Quad _root_.Quad

set_option maxHeartbeats 400000 in
theorem untie_calls (a : Option Addr) (cap : Nat) (l : List UInt8) (w : World) (h : BS w a cap l) (hq : Laid w) (hn : l.length ≤ 140737488355328) :
    Calls Tryd.prog 77 #[.slice a l.length cap] w (RetBE w.heap.size w (untieL l).1 (untieL l).2) := by
  go_enter Tryd.func77, Tryd.ntmps77
  go_wp2_with fail
  refine (next_calls a cap l w h hq hn).mono ?_
  rintro e w1 ⟨v1, v2, rfl, ho1, ho2, hb⟩
  obtain ⟨a1, c1, rfl, _⟩ := ho1.bs
  obtain ⟨a2, c2, rfl, hs2, _⟩ := ho2.bs
  have hm2 := hs2.max'
  have hu : untieL l = if (nextL l).2.2 = 0 then (if 0 < (nextL l).2.1.length then ([], 4) else ((nextL l).1, 0)) else ([], (nextL l).2.2) := rfl
  generalize nextL l = q at ho1 ho2 hs2 hm2 hu ⊢
  obtain ⟨t, r, k⟩ := q
  dsimp only at ho1 hs2 hm2 hu
  clear h hq hn ho2 hs2
  have Hb := hid hb
  have Ho := hid ho1
  clear hb ho1
  by_cases hk : k = 0
  · subst hk
    rw [if_pos rfl] at hu
    by_cases hr : 0 < r.length
    · rw [if_pos hr] at hu
      have Hu := hid hu
      have hr' : (0 : Int) < (r.length : Int) := by omega
      clear hu hr
      go_wp2_with fail
      go_ret2
      rw [Hu.out]
      exact ⟨_, rfl, World.ownsRow_nil _ _ _ _, Hb.out⟩
    · rw [if_neg hr] at hu
      have Hu := hid hu
      have hr' : r.length = 0 := by omega
      have hr2 : r = [] := List.eq_nil_of_length_eq_zero hr'
      subst hr2
      clear hu hr hr'
      go_wp2_with fail
      go_ret2
      rw [Hu.out]
      exact ⟨_, rfl, Ho.out, Hb.out⟩
  · rw [if_neg hk] at hu
    have Hu := hid hu
    have hk' : (k != 0) = true := by simpa using hk
    clear hu hk
    go_wp2_with fail
    go_ret2
    rw [Hu.out]
    exact ⟨_, rfl, World.ownsRow_nil _ _ _ _, Hb.out⟩

set_option maxHeartbeats 400000 in
theorem tie_long_calls (a : Option Addr) (cap n : Nat) (w : World) (hn : 2048 < n) (hm : n ≤ 9223372036854775807) :
    Calls Tryd.prog 70 #[.slice a n cap] w fun e w' => e = .returned (.tuple #[.slice none 0 0, .int .i64 3]) ∧ w = w' := by
  have hn' : (2048 : Int) < (n : Int) := by omega
  go_enter Tryd.func70, Tryd.ntmps70
  go_wp2_with fail
  go_ret2
  exact ⟨rfl, rfl⟩

set_option maxHeartbeats 400000 in
theorem reftie_calls (a : Option Addr) (cap : Nat) (l : List UInt8) (w : World) (h : BS w a cap l) (hn : l.length ≤ 2048) :
    Calls Tryd.prog 31 #[.slice a l.length cap] w (RetBE w.heap.size w (tieL l) 0) := by
  have hn' : ((l.length : Nat) : Int) ≤ 2048 := by omega
  have hown : OB (w.alloc (.cells #[.int .u8 ((l.length : Int) % 256), .int .u8 ((l.length : Int) / 256)] 5)) w.heap.size 5 (.slice (some ⟨w.heap.size, 0, none⟩) 2 2) [UInt8.ofNat l.length, UInt8.ofNat (l.length / 256)] := by
    have := OB.lit (w := w) 5 [UInt8.ofNat l.length, UInt8.ofNat (l.length / 256)] (Nat.le_refl _) (by simp [maxLen])
    have e : ([UInt8.ofNat l.length, UInt8.ofNat (l.length / 256)].map u8v).toArray = #[.int .u8 ((l.length : Int) % 256), .int .u8 ((l.length : Int) / 256)] := by
      simp only [List.map_cons, List.map_nil, u8v_of]
      rw [Nat.mod_eq_of_lt (show l.length / 256 < 256 by omega)]
      rfl
    rw [e] at this
    exact this
  have hsrc := h.below (below_alloc w (.cells #[.int .u8 ((l.length : Int) % 256), .int .u8 ((l.length : Int) / 256)] 5))
  have Hb := hid (below_alloc w (.cells #[.int .u8 ((l.length : Int) % 256), .int .u8 ((l.length : Int) / 256)] 5))
  have Hn := hid hn
  clear h hn
  go_enter Tryd.func31, Tryd.ntmps31
  go_wp2_with (at_builtin; refine wpList_append_b (.tmp 17) (.tmp 18) _ rfl rfl _ 5 info_u8 under_bytes _ _ hown rfl hsrc rfl (by have := Hn.out; simp; omega) (by simp) ?_; intro v5 w1 hown1 hg1 hb1 _)
  clear hown hsrc hg1
  have hb1' := Hb.out.trans hb1
  obtain ⟨a5, c5, rfl, hs5, ho5⟩ := OB.bs hown1
  refine (refsum_calls _ _ _ _ hs5 (by have := Hn.out; simp; omega)).mono ?_
  rintro e w2 ⟨rfl, hb2⟩
  have hlt : ((crc ([UInt8.ofNat l.length, UInt8.ofNat (l.length / 256)] ++ l)).toNat : Int) ≤ 4294967295 := by have := (crc ([UInt8.ofNat l.length, UInt8.ofNat (l.length / 256)] ++ l)).isLt; omega
  have hown2 := hid (OB.below hown1 hb2)
  have Hb2 := hid (hb1'.trans (hb2.mono hb1'.size))
  have Ht : Kept (tieL l = ([UInt8.ofNat l.length, UInt8.ofNat (l.length / 256)] ++ l) ++ tailL (crc ([UInt8.ofNat l.length, UInt8.ofNat (l.length / 256)] ++ l))) := ⟨rfl⟩
  have Hl2 : Kept (([UInt8.ofNat l.length, UInt8.ofNat (l.length / 256)] ++ l).length ≤ 2050) := ⟨by have := Hn.out; simp; omega⟩
  generalize [UInt8.ofNat l.length, UInt8.ofNat (l.length / 256)] ++ l = F at hown2 hlt Ht Hl2
  generalize hC : crc F = C at hlt Ht
  have eA : ((tailL C).map u8v).toArray = #[.int .u8 ((C.toNat : Int) % 256), .int .u8 ((C.toNat : Int) / 256 % 256), .int .u8 ((C.toNat : Int) / 65536 % 256), .int .u8 ((C.toNat : Int) / 16777216)] := by
    have := C.isLt
    simp only [tailL, List.map_cons, List.map_nil, u8v_of]
    rw [Nat.mod_eq_of_lt (show C.toNat / 16777216 < 256 by omega)]
    rfl
  have hlit := lit_bs w2 5 (tailL C) (by simp [tailL, maxLen])
  rw [eA] at hlit
  have hown3 := OB.below hown2.out (below_alloc w2 (.cells #[.int .u8 ((C.toNat : Int) % 256), .int .u8 ((C.toNat : Int) / 256 % 256), .int .u8 ((C.toNat : Int) / 65536 % 256), .int .u8 ((C.toNat : Int) / 16777216)] 5))
  have Hb3 := hid (Hb2.out.trans ((below_alloc w2 (.cells #[.int .u8 ((C.toNat : Int) % 256), .int .u8 ((C.toNat : Int) / 256 % 256), .int .u8 ((C.toNat : Int) / 65536 % 256), .int .u8 ((C.toNat : Int) / 16777216)] 5)).mono Hb2.out.size))
  clear hC eA hb1 hb1' hb2 hs5 ho5 hown1
  go_wp2_with (at_builtin; refine wpList_append_b (.tmp 22) (.tmp 34) _ rfl rfl _ 5 info_u8 under_bytes _ _ hown3 rfl hlit rfl (by have := Hl2.out; simp [tailL]; omega) (by have := Hb2.out.size; simp; omega) ?_; intro v7 w3 hown4 hg2 hb3 _)
  go_ret2
  rw [Ht.out]
  exact ⟨_, rfl, hown4, Hb3.out.trans hb3⟩
end Go.Proofs.YtmmcmldcbdaooaaDoor
