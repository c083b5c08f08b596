/- The walk of KnotCuts: a knot that is cut anywhere is none, and what is told of it is told of what is there. -/
import Derived.Test.YtinmhdikldmcgaaDoorKnotG
import Derived.Test.YtinmhdikldmcgaaDoorKnotApart
namespace Go.Proofs.YtinmhdikldmcgaaDoor
open Go.RowKit Go.Quad _root_.Quad

set_option maxHeartbeats 1000000 in
theorem knotCuts_walk (a : Option Addr) (cap : Nat) (l : List UInt8) (x : Int) (w : World) (h : BS w a cap l) (hx : (Lit.int .u16 x).wf = true) (hq : Laid w) :
    Calls Tryd.prog 10 #[.slice a l.length cap, .int .u16 x] w fun e w' => e = .returned (.bool true) ∧ Below w.heap.size w w' := by
  obtain ⟨at', rfl, hat⟩ := nat_of_u16 hx
  have hl := h.max'
  have hf := h.fit'
  obtain ⟨L, n, hL, hn, hB, hcase⟩ := cut600 h 300
  have HL := hid hL
  have Hn := hid hn
  have H := hid hB
  have Hq := hid hq
  have hat' : (at' : Int) ≤ 65535 := by omega
  obtain ⟨M, hM, hm0⟩ : ∃ M : Nat, M = at' % (n + 6) ∧ M < n + 6 := ⟨_, rfl, Nat.mod_lt _ (by omega)⟩
  have hcase' : (l.length ≤ 300 ∧ n = l.length ∧ Kept (M = at' % (l.length + 6)) ∧ Kept ((M : Int) = (at' : Int) % ((l.length : Int) + 6))) ∨ (300 < l.length ∧ n = 300 ∧ Kept (M = at' % 306) ∧ Kept ((M : Int) = (at' : Int) % 306)) := by
    rcases hcase with ⟨h1, rfl⟩ | ⟨h1, rfl⟩
    · exact .inl ⟨h1, rfl, ⟨hM⟩, ⟨by rw [hM]; simp⟩⟩
    · exact .inr ⟨h1, rfl, ⟨hM⟩, ⟨by rw [hM]; simp⟩⟩
  have Hcut := hid (nextL_cut L M (by omega) (by omega))
  have Hcut2 : Kept (untieL ((tieL L).take M) = ([], 2)) := ⟨by unfold untieL; rw [Hcut.out]; rfl⟩
  have Hm0 := hid hm0
  clear h hq hL hn hB hx hcase hm0 hM
  rcases hcase' with ⟨hs, rfl, E, EI⟩ | ⟨hs, rfl, E, EI⟩
  all_goals
    go_enter Tryd.func10, Tryd.ntmps10
    go_wp2_with fail
    refine (awake_calls w Hq.out).mono ?_
    rintro e w1 ⟨rfl, hb1⟩
    have Hb1 := hid hb1
    have Hq1 := hid (Hq.out.below hb1 Hq.out.1)
    have hown := OB.empty w1
    have hsrc := (H.out.below hb1).below (below_alloc w1 (.cells #[] 5))
    have HbA := hid (hb1.trans ((below_alloc w1 (.cells #[] 5)).mono hb1.size))
    clear hb1
    go_wp2_with (at_builtin; refine wpList_append_b (.tmp 15) (.tmp 20) _ rfl rfl _ 5 info_u8 under_bytes _ _ hown rfl hsrc (by rw [HL.out]; rfl) (by have := HL.out; have := Hn.out; simp; omega) (by simp) ?_; intro v5 w2 hown1 hg1 hb2 _)
    rw [List.nil_append] at hown1
    obtain ⟨a5, c5, rfl, hs5, _⟩ := hown1.bs
    have Hb2 := hid (HbA.out.trans (hb2.mono (Nat.le_trans Hb1.out.size (Nat.le_refl _))))
    have Hq2 := hid (Hq.out.below Hb2.out Hq.out.1)
    have Ho5 := hid hown1
    clear hown hsrc hg1 hb2 hown1
    refine (tie_calls a5 c5 L w2 hs5 Hq2.out (by have := HL.out; have := Hn.out; omega)).mono ?_
    rintro e w3 ⟨v6, rfl, ho6, hb3⟩
    clear hs5
    obtain ⟨a6, c6, e6, hs6, _⟩ := ho6.bs
    have hf6 := hs6.fit'
    rw [tieL_length, HL.out] at e6 hf6
    subst e6
    have Hs6 := hid (hs6.take M)
    have Hb3 := hid (Hb2.out.trans (hb3.mono Hb2.out.size))
    have Hq3 := hid (Hq.out.below Hb3.out Hq.out.1)
    clear ho6 hs6 hb3
    have hlc : ((tieL L).take M).length = M := by rw [List.length_take, tieL_length, HL.out]; exact Nat.min_eq_left (Nat.le_of_lt Hm0.out)
    have Hlc := hid hlc
    have hm1 := Hm0.out
    clear hlc
    have hi1 : (M : Int) ≤ (c6 : Int) := by omega
    have hi0 : (0 : Int) ≤ (M : Int) := by omega
    rw [EI.out] at hi1 hi0
    clear hm1
    go_wp2_with fail
    have nx := next_calls a6 c6 _ w3 Hs6.out Hq3.out (by rw [Hlc.out]; have := Hm0.out; have := Hn.out; omega)
    rw [Hlc.out, Hcut.out, E.out] at nx
    refine nx.mono ?_
    rintro e w4 ⟨v7, v8, rfl, _, _, hb4⟩
    clear nx
    have Hb4 := hid (Hb3.out.trans (hb4.mono Hb3.out.size))
    have Hs6' := hid (Hs6.out.below hb4)
    have Hq4 := hid (Hq.out.below Hb4.out Hq.out.1)
    clear hb4
    go_wp2_with fail
    have un := untie_calls a6 c6 _ w4 Hs6'.out Hq4.out (by rw [Hlc.out]; have := Hm0.out; have := Hn.out; omega)
    rw [Hlc.out, Hcut2.out, E.out] at un
    refine un.mono ?_
    rintro e w5 ⟨v9, rfl, _, hb5⟩
    clear un
    have Hb5 := hid (Hb4.out.trans (hb5.mono Hb4.out.size))
    clear hb5
    go_wp2_with fail
    go_ret
    exact ⟨rfl, Hb5.out⟩
end Go.Proofs.YtinmhdikldmcgaaDoor
