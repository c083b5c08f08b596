/- The walk of KnotBursts: of any knot any bits within 32 that follow one another may be turned: it is none any more. -/
import Derived.Test.YtinmhdikldmcgaaDoorKnotG
import Derived.Test.YtinmhdikldmcgaaDoorKnotApart
namespace Go.Proofs.YtinmhdikldmcgaaDoor
open Go.RowKit Go.Quad _root_.Quad

set_option maxHeartbeats 1000000 in
theorem knotBursts_walk (a : Option Addr) (cap : Nat) (l : List UInt8) (x y : Int) (w : World) (h : BS w a cap l) (hx : (Lit.int .u16 x).wf = true) (hy : (Lit.int .u32 y).wf = true) (hq : Laid w) :
    Calls Tryd.prog 8 #[.slice a l.length cap, .int .u16 x, .int .u32 y] w fun e w' => e = .returned (.bool true) ∧ Below w.heap.size w w' := by
  obtain ⟨at', rfl, hat⟩ := nat_of_u16 hx
  obtain ⟨pat, rfl, hpat⟩ := nat_of_u32 hy
  have hl := h.max'
  have hf := h.fit'
  obtain ⟨L, n, hL, hn, hB, hcase⟩ := cut600 h 1000
  have HL := hid hL
  have Hn := hid hn
  have H := hid hB
  have Hq := hid hq
  have hor := or_one pat hpat
  have Hpat := hid (show (pat ||| 1) < 4294967296 from Nat.or_lt_two_pow (n := 32) hpat (by decide))
  have hat' : (at' : Int) ≤ 65535 := by omega
  have hcase' : (l.length ≤ 1000 ∧ n = l.length ∧ Kept (((at' % (8 * (n + 6)) : Nat) : Int) = (at' : Int) % (8 * ((l.length : Int) + 6)))) ∨ (1000 < l.length ∧ n = 1000 ∧ Kept (((at' % (8 * (n + 6)) : Nat) : Int) = (at' : Int) % 8048)) := by
    rcases hcase with ⟨h1, rfl⟩ | ⟨h1, rfl⟩
    · exact .inl ⟨h1, rfl, ⟨by simp⟩⟩
    · exact .inr ⟨h1, rfl, ⟨by simp⟩⟩
  have Hne := hid (untieL_burst L (at' % (8 * (n + 6))) (pat ||| 1) (by omega) (by rw [hL]; exact Nat.mod_lt _ (by omega)) (or_one_bit pat))
  have Hmod := hid (show at' % (8 * (n + 6)) ≤ 10000000 from Nat.le_trans (Nat.mod_le at' _) (by omega))
  clear h hq hL hn hB hx hy hpat hcase
  rcases hcase' with ⟨hs, rfl, E⟩ | ⟨hs, rfl, E⟩
  all_goals
    go_enter Tryd.func8, Tryd.ntmps8
    go_wp2_with fail
    refine (awake_calls w Hq.out).mono ?_
    rintro e w1 ⟨rfl, hb1⟩
    have Hb1 := hid hb1
    have Hq1 := hid (Hq.out.below hb1 Hq.out.1)
    have hown := OB.empty w1
    have hsrc := (H.out.below hb1).below (below_alloc w1 (.cells #[] 5))
    have HbA := hid (hb1.trans ((below_alloc w1 (.cells #[] 5)).mono hb1.size))
    clear hb1
    go_wp2_with (at_builtin; refine wpList_append_b (.tmp 14) (.tmp 19) _ rfl rfl _ 5 info_u8 under_bytes _ _ hown rfl hsrc (by rw [HL.out]; rfl) (by have := HL.out; have := Hn.out; simp; omega) (by simp) ?_; intro v5 w2 hown1 hg1 hb2 _)
    rw [List.nil_append] at hown1
    obtain ⟨a5, c5, rfl, hs5, _⟩ := hown1.bs
    have Hb2 := hid (HbA.out.trans (hb2.mono (Nat.le_trans Hb1.out.size (Nat.le_refl _))))
    have Hq2 := hid (Hq.out.below Hb2.out Hq.out.1)
    have Ho5 := hid hown1
    clear hown hsrc hg1 hb2 hown1
    refine (tie_calls a5 c5 L w2 hs5 Hq2.out (by have := HL.out; have := Hn.out; omega)).mono ?_
    rintro e w3 ⟨v6, rfl, ho6, hb3⟩
    clear hs5
    obtain ⟨a6, c6, e6, hs6, _⟩ := ho6.bs
    rw [tieL_length, HL.out] at e6
    subst e6
    have Hs6 := hid hs6
    have Hb3 := hid (Hb2.out.trans (hb3.mono Hb2.out.size))
    have Hq3 := hid (Hq.out.below Hb3.out Hq.out.1)
    clear ho6 hs6 hb3
    go_wp2_with fail
    have tn := turn_calls a6 c6 (tieL L) _ _ w3 Hs6.out (by rw [tieL_length]; have := HL.out; have := Hn.out; omega) Hmod.out Hpat.out
    rw [tieL_length, HL.out, E.out] at tn
    refine tn.mono ?_
    rintro e w4 ⟨v7, rfl, ho7, hb4⟩
    clear tn
    obtain ⟨a7, c7, rfl, hs7, _⟩ := ho7.bs
    have Hs7 := hid hs7
    have Hb4 := hid (Hb3.out.trans (hb4.mono Hb3.out.size))
    have Hq4 := hid (Hq.out.below Hb4.out Hq.out.1)
    clear hb4 ho7 hs7
    go_wp2_with fail
    refine (untie_calls _ _ _ _ Hs7.out Hq4.out (by rw [turnN_length, tieL_length]; have := HL.out; have := Hn.out; omega)).mono ?_
    rintro e w5 ⟨v8, rfl, ho8, hb5⟩
    have Hb5 := hid (Hb4.out.trans (hb5.mono Hb4.out.size))
    clear hb5 ho8
    have hne := Hne.out
    generalize (untieL (turnN (at' % (8 * (_ + 6))) (pat ||| 1) 32 (tieL L))).2 = k at hne ⊢
    have hk : (k != 0) = true := by simpa using hne
    clear hne
    go_wp2_with fail
    go_ret
    exact ⟨rfl, Hb5.out⟩
end Go.Proofs.YtinmhdikldmcgaaDoor
