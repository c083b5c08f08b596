/- The walk of KnotTies: every text has its knot, and is read out of it; it comes back untouched. -/
import Derived.Test.YtinmhdikldmcgaaDoorKnotG
import Derived.Test.YtinmhdikldmcgaaDoorKnotApart
namespace Go.Proofs.YtinmhdikldmcgaaDoor
open Go.RowKit Go.Quad _root_.Quad

set_option maxHeartbeats 1000000 in
theorem knotTies_walk (a : Option Addr) (cap : Nat) (l : List UInt8) (w : World) (h : BS w a cap l) (hq : Laid w) :
    Calls Tryd.prog 7 #[.slice a l.length cap] w fun e w' => e = .returned (.bool true) ∧ Below w.heap.size w w' := by
  have hl := h.max'
  have hf := h.fit'
  obtain ⟨L, n, hL, hn, hB, hcase⟩ := cut600 h 600
  have HL := hid hL
  have Hn := hid hn
  have H := hid hB
  have Hq := hid hq
  clear h hq hL hn hB
  rcases hcase with ⟨hs, rfl⟩ | ⟨hs, rfl⟩
  all_goals
    go_enter Tryd.func7, Tryd.ntmps7
    go_wp2_with fail
    refine (awake_calls w Hq.out).mono ?_
    rintro e w1 ⟨rfl, hb1⟩
    have Hb1 := hid hb1
    have Hq1 := hid (Hq.out.below hb1 Hq.out.1)
    clear hb1
    go_wp2_with fail
    have sp := spare_calls a cap L w1 (H.out.below Hb1.out) (by have := HL.out; have := Hn.out; omega)
    rw [HL.out] at sp
    refine sp.mono ?_
    rintro e w2 ⟨a2, c2, rfl, hs2, hb2⟩
    clear sp
    have Hs2 := hid hs2
    have Hb2 := hid (Hb1.out.trans (hb2.mono Hb1.out.size))
    have Hq2 := hid (Hq.out.below Hb2.out Hq.out.1)
    clear hs2 hb2
    go_wp2_with fail
    have ti := tie_calls a2 c2 L w2 Hs2.out.left Hq2.out (by have := HL.out; have := Hn.out; omega)
    rw [HL.out] at ti
    refine ti.mono ?_
    rintro e w3 ⟨v3, rfl, ho3, hb3⟩
    clear ti
    obtain ⟨a3, c3, rfl, hs3, _⟩ := ho3.bs
    have Hs3 := hid hs3
    have Hs2' := hid (Hs2.out.below hb3)
    have Hb3 := hid (Hb2.out.trans (hb3.mono Hb2.out.size))
    have Hq3 := hid (Hq.out.below Hb3.out Hq.out.1)
    clear ho3 hs3 hb3
    go_wp2_with fail
    have rt := reftie_calls a cap L w3 (H.out.below Hb3.out) (by have := HL.out; have := Hn.out; omega)
    rw [HL.out] at rt
    refine rt.mono ?_
    rintro e w4 ⟨v4, rfl, ho4, hb4⟩
    clear rt
    obtain ⟨a4, c4, rfl, hs4, _⟩ := ho4.bs
    have Hs4 := hid hs4
    have Hs2'' := hid (Hs2'.out.below hb4)
    have Hs3' := hid (Hs3.out.below hb4)
    have Hb4 := hid (Hb3.out.trans (hb4.mono Hb3.out.size))
    have Hq4 := hid (Hq.out.below Hb4.out Hq.out.1)
    clear ho4 hs4 hb4
    go_wp2_with fail
    refine (untie_calls _ _ _ _ Hs3'.out Hq4.out (by rw [tieL_length]; have := HL.out; have := Hn.out; omega)).mono ?_
    rw [untieL_tie L (by have := HL.out; have := Hn.out; omega)]
    rintro e w5 ⟨v5, rfl, ho5, hb5⟩
    obtain ⟨a5, c5, e5, hs5, _⟩ := ho5.bs
    rw [HL.out] at e5
    subst e5
    have Hs5 := hid hs5
    have Hs2a := hid (Hs2''.out.below hb5)
    have Hs3a := hid (Hs3'.out.below hb5)
    have Hs4a := hid (Hs4.out.below hb5)
    have Hb5 := hid (Hb4.out.trans (hb5.mono Hb4.out.size))
    clear ho5 hs5 hb5
    go_wp2_with fail
    refine (same_calls _ _ _ _ _ _ _ Hs3a.out Hs4a.out).mono ?_
    rintro e w' ⟨rfl, rfl⟩
    rw [beq_self_eq_true]
    go_wp2_with fail
    have kp := kept_calls a2 a c2 cap L w5 Hs2a.out (H.out.below Hb5.out)
    rw [HL.out] at kp
    refine kp.mono ?_
    rintro e w' ⟨rfl, rfl⟩
    clear kp
    go_wp2_with fail
    have sm := same_calls a5 a c5 cap L L w5 Hs5.out (H.out.below Hb5.out)
    rw [HL.out] at sm
    refine sm.mono ?_
    rintro e w' ⟨rfl, rfl⟩
    clear sm
    rw [beq_self_eq_true]
    go_wp2_with fail
    go_ret
    exact ⟨rfl, Hb5.out⟩
end Go.Proofs.YtinmhdikldmcgaaDoor
