/- KnotSums is proved: of all bytes the sum that the code tells is what is left of the division; the bytes come back untouched. No condition but that the table lies as it was laid. -/
import Derived.Test.YtinmhdikldmcgaaDoorKnotD
namespace Go.Proofs.YtinmhdikldmcgaaDoor
open Go.RowKit Go.Quad _root_.Quad

set_option maxHeartbeats 1000000 in
theorem knotSums_walk (a : Option Addr) (cap : Nat) (l : List UInt8) (w : World) (h : BS w a cap l) (hq : Laid w) :
    Calls Tryd.prog 3 #[.slice a l.length cap] w fun e w' => e = .returned (.bool true) ∧ Below w.heap.size w w' := by
  have hl := h.max'
  have hf := h.fit'
  have key : ∃ (L : List UInt8) (n : Nat), L.length = n ∧ n ≤ 600 ∧ BS w a cap L ∧ ((l.length ≤ 600 ∧ n = l.length) ∨ (600 < l.length ∧ n = 600)) := by
    by_cases hs : l.length ≤ 600
    · exact ⟨l, _, rfl, hs, h, .inl ⟨hs, rfl⟩⟩
    · exact ⟨l.take 600, 600, by rw [List.length_take]; omega, Nat.le_refl _, h.take 600, .inr ⟨by omega, rfl⟩⟩
  obtain ⟨L, n, hL, hn, hB, hcase⟩ := key
  have HL := hid hL
  have Hn := hid hn
  have H := hid hB
  have Hq := hid hq
  clear h hq hL hn hB
  rcases hcase with ⟨hs, rfl⟩ | ⟨hs, rfl⟩
  all_goals
    go_enter Tryd.func3, Tryd.ntmps3
    go_wp2_with fail
    have sp := spare_calls a cap L w H.out (by have := HL.out; have := Hn.out; omega)
    rw [HL.out] at sp
    refine sp.mono ?_
    rintro e w1 ⟨a1, c1, rfl, hs1, hb1⟩
    clear sp
    have Hs1 := hid hs1
    have Hb1 := hid hb1
    clear hs1 hb1
    go_wp2_with fail
    refine (awake_calls w1 (Hq.out.below Hb1.out Hq.out.1)).mono ?_
    rintro e w2 ⟨rfl, hb2⟩
    have Hb2 := hid hb2
    clear hb2
    go_wp2_with fail
    have sm := sum_calls a1 c1 L w2 (Hs1.out.left.below Hb2.out) ((Hq.out.below Hb1.out Hq.out.1).below Hb2.out (Nat.lt_of_lt_of_le Hq.out.1 Hb1.out.size))
    rw [HL.out] at sm
    refine sm.mono ?_
    rintro e w' ⟨rfl, rfl⟩
    clear sm
    go_wp2_with fail
    have rs := refsum_calls a cap L w2 (H.out.below (Hb1.out.trans (Hb2.out.mono Hb1.out.size))) (by have := HL.out; have := Hn.out; omega)
    rw [HL.out] at rs
    refine rs.mono ?_
    rintro e w3 ⟨rfl, hb3⟩
    have Hb3 := hid hb3
    clear rs hb3
    generalize (crc L).toNat = C
    go_wp2_with fail
    have kp := kept_calls a1 a c1 cap L w3 ((Hs1.out.below Hb2.out).below Hb3.out) (H.out.below ((Hb1.out.trans (Hb2.out.mono Hb1.out.size)).trans (Hb3.out.mono (Nat.le_trans Hb1.out.size Hb2.out.size))))
    rw [HL.out] at kp
    refine kp.mono ?_
    rintro e w' ⟨rfl, rfl⟩
    clear kp
    go_wp2_with fail
    go_ret
    exact ⟨by simp, (Hb1.out.trans (Hb2.out.mono Hb1.out.size)).trans (Hb3.out.mono (Nat.le_trans Hb1.out.size Hb2.out.size))⟩
end Go.Proofs.YtinmhdikldmcgaaDoor
