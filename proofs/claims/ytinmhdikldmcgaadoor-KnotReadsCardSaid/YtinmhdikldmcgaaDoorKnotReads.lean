/- The walk of KnotReads: all bytes begin with a knot, or don't; are one, or aren't; they come back untouched. -/
import Derived.Test.YtinmhdikldmcgaaDoorKnotH
import Derived.Test.YtinmhdikldmcgaaDoorKnotApart
namespace Go.Proofs.YtinmhdikldmcgaaDoor
open Go.RowKit Go.Quad _root_.Quad

theorem nextL_short (p : List UInt8) : (nextL p).1.length ≤ p.length ∧ (nextL p).2.1.length ≤ p.length := by
  unfold nextL
  split
  · simp
  · split
    · simp
    · split
      · simp
      · split
        · simp; omega
        · simp

theorem nextL_err (p : List UInt8) (h : (nextL p).2.2 ≠ 0) : (nextL p).1 = [] := by
  unfold nextL at h ⊢
  split
  · rfl
  · split
    · rfl
    · split
      · rfl
      · split
        · rename_i h1 h2 h3 h4
          rw [if_neg h1, if_neg h2, if_neg h3, if_pos h4] at h
          exact (h rfl).elim
        · rfl

set_option maxHeartbeats 2000000 in
theorem knotReads_walk (a : Option Addr) (cap : Nat) (l : List UInt8) (w : World) (h : BS w a cap l) (hq : Laid w) :
    Calls Tryd.prog 6 #[.slice a l.length cap] w fun e w' => e = .returned (.bool true) ∧ Below w.heap.size w w' := by
  have hl := h.max'
  have hf := h.fit'
  obtain ⟨L, n, hL, hn, hB, hcase⟩ := cut600 h 600
  have HL := hid hL
  have Hn := hid hn
  have H := hid hB
  have Hq := hid hq
  clear h hq hL hn hB
  rcases hcase with ⟨hs, rfl⟩ | ⟨hs, rfl⟩
  all_goals
    go_enter Tryd.func6, Tryd.ntmps6
    go_wp2_with fail
    refine (awake_calls w Hq.out).mono ?_
    rintro e w1 ⟨rfl, hb1⟩
    have Hb1 := hid hb1
    clear hb1
    go_wp2_with fail
    have sp := spare_calls a cap L w1 (H.out.below Hb1.out) (by have := HL.out; have := Hn.out; omega)
    rw [HL.out] at sp
    refine sp.mono ?_
    rintro e w2 ⟨a2, c2, rfl, hs2, hb2⟩
    clear sp
    have Hs2 := hid hs2
    have Hb2 := hid (Hb1.out.trans (hb2.mono Hb1.out.size))
    have Hq2 := hid (Hq.out.below Hb2.out Hq.out.1)
    clear hs2 hb2
    go_wp2_with fail
    have nx := next_calls a2 c2 L w2 Hs2.out.left Hq2.out (by have := HL.out; have := Hn.out; omega)
    rw [HL.out] at nx
    refine nx.mono ?_
    rintro e w3 ⟨v3, v4, rfl, ho3, ho4, hb3⟩
    clear nx
    obtain ⟨a3, c3, rfl, hs3, _⟩ := ho3.bs
    obtain ⟨a4, c4, rfl, hs4, _⟩ := ho4.bs
    have Hs3 := hid hs3
    have Hs4 := hid hs4
    have Hs2a := hid (Hs2.out.below hb3)
    have Hb3 := hid (Hb2.out.trans (hb3.mono Hb2.out.size))
    clear ho3 ho4 hs3 hs4 hb3
    go_wp2_with fail
    have rn := refnext_calls a cap L w3 (H.out.below Hb3.out) (by have := HL.out; have := Hn.out; omega)
    rw [HL.out] at rn
    refine rn.mono ?_
    rintro e w4 ⟨v5, v6, rfl, ho5, ho6, hb4⟩
    clear rn
    obtain ⟨a5, c5, rfl, hs5, _⟩ := ho5.bs
    obtain ⟨a6, c6, rfl, hs6, _⟩ := ho6.bs
    have Hs5 := hid hs5
    have Hs6 := hid hs6
    have Hs2b := hid (Hs2a.out.below hb4)
    have Hs3b := hid (Hs3.out.below hb4)
    have Hs4b := hid (Hs4.out.below hb4)
    have Hb4 := hid (Hb3.out.trans (hb4.mono Hb3.out.size))
    have Hq4 := hid (Hq.out.below Hb4.out Hq.out.1)
    clear ho5 ho6 hs5 hs6 hb4
    have hmx := Hs6.out.max'
    go_wp2_with fail
    refine (same_calls _ _ _ _ _ _ _ Hs3b.out Hs5.out).mono ?_
    rintro e w' ⟨rfl, rfl⟩
    rw [beq_self_eq_true]
    go_wp2_with fail
    refine (same_calls _ _ _ _ _ _ _ Hs4b.out Hs6.out).mono ?_
    rintro e w' ⟨rfl, rfl⟩
    rw [beq_self_eq_true]
    go_wp2_with fail
    have kp := kept_calls a2 a c2 cap L w4 Hs2b.out (H.out.below Hb4.out)
    rw [HL.out] at kp
    refine kp.mono ?_
    rintro e w' ⟨rfl, rfl⟩
    clear kp
    have hu : untieL L = if (nextL L).2.2 = 0 then (if 0 < (nextL L).2.1.length then ([], 4) else ((nextL L).1, 0)) else ([], (nextL L).2.2) := rfl
    have hsh := nextL_err L
    have HL2 := hid HL.out
    generalize nextL L = q at hmx Hs5 Hs6 Hs3b Hs4b hu hsh ⊢
    obtain ⟨t, r, k⟩ := q
    dsimp only at hmx Hs5 Hs6 Hs3b Hs4b hu hsh ⊢
    have Hsh := hid hsh
    clear hsh
    by_cases hk : k = 0
    · subst hk
      rw [if_pos rfl] at hu
      by_cases hr : 0 < r.length
      · rw [if_pos hr] at hu
        have Hu := hid hu
        have hr' : (0 : Int) < (r.length : Int) := by omega
        clear hu hr
        go_wp2_with fail
        have un := untie_calls a2 c2 L w4 Hs2b.out.left Hq4.out (by have := HL.out; have := Hn.out; omega)
        rw [HL.out, Hu.out] at un
        refine un.mono ?_
        rintro e w5 ⟨v7, rfl, ho7, hb5⟩
        clear un
        obtain ⟨a7, c7, rfl, hs7, _⟩ := ho7.bs
        have Hs7 := hid hs7
        have Hs5' := hid (Hs5.out.below hb5)
        have Hs2c := hid (Hs2b.out.below hb5)
        have Hb5 := hid (Hb4.out.trans (hb5.mono Hb4.out.size))
        clear ho7 hs7 hb5
        go_wp2_with fail
        refine (same_calls _ _ _ _ _ _ _ Hs7.out (BS.nil w5)).mono ?_
        rintro e w' ⟨rfl, rfl⟩
        rw [beq_self_eq_true]
        go_wp2_with fail
        have kp := kept_calls a2 a c2 cap L w5 Hs2c.out (H.out.below Hb5.out)
        rw [HL.out] at kp
        refine kp.mono ?_
        rintro e w' ⟨rfl, rfl⟩
        clear kp
        go_wp2_with fail
        go_ret
        exact ⟨rfl, Hb5.out⟩
      · rw [if_neg hr] at hu
        have Hu := hid hu
        have hr2 : r = [] := List.eq_nil_of_length_eq_zero (by omega)
        subst hr2
        clear hu hr
        go_wp2_with fail
        have un := untie_calls a2 c2 L w4 Hs2b.out.left Hq4.out (by have := HL.out; have := Hn.out; omega)
        rw [HL.out, Hu.out] at un
        refine un.mono ?_
        rintro e w5 ⟨v7, rfl, ho7, hb5⟩
        clear un
        obtain ⟨a7, c7, rfl, hs7, _⟩ := ho7.bs
        have Hs7 := hid hs7
        have Hs5' := hid (Hs5.out.below hb5)
        have Hs2c := hid (Hs2b.out.below hb5)
        have Hb5 := hid (Hb4.out.trans (hb5.mono Hb4.out.size))
        clear ho7 hs7 hb5
        go_wp2_with fail
        refine (same_calls _ _ _ _ _ _ _ Hs7.out Hs5'.out).mono ?_
        rintro e w' ⟨rfl, rfl⟩
        rw [beq_self_eq_true]
        go_wp2_with fail
        have kp := kept_calls a2 a c2 cap L w5 Hs2c.out (H.out.below Hb5.out)
        rw [HL.out] at kp
        refine kp.mono ?_
        rintro e w' ⟨rfl, rfl⟩
        clear kp
        go_wp2_with fail
        go_ret
        exact ⟨rfl, Hb5.out⟩
    · rw [if_neg hk] at hu
      have ht : t = [] := Hsh.out hk
      subst ht
      have Hu := hid hu
      have hk' : (k == 0) = false := by simpa using hk
      clear hu hk
      go_wp2_with fail
      have un := untie_calls a2 c2 L w4 Hs2b.out.left Hq4.out (by have := HL.out; have := Hn.out; omega)
      rw [HL.out, Hu.out] at un
      refine un.mono ?_
      rintro e w5 ⟨v7, rfl, ho7, hb5⟩
      clear un
      obtain ⟨a7, c7, rfl, hs7, _⟩ := ho7.bs
      have Hs7 := hid hs7
      have Hs5' := hid (Hs5.out.below hb5)
      have Hs2c := hid (Hs2b.out.below hb5)
      have Hb5 := hid (Hb4.out.trans (hb5.mono Hb4.out.size))
      clear ho7 hs7 hb5
      go_wp2_with fail
      refine (same_calls _ _ _ _ _ _ _ Hs7.out Hs5'.out).mono ?_
      rintro e w' ⟨rfl, rfl⟩
      rw [beq_self_eq_true]
      go_wp2_with fail
      have kp := kept_calls a2 a c2 cap L w5 Hs2c.out (H.out.below Hb5.out)
      rw [HL.out] at kp
      refine kp.mono ?_
      rintro e w' ⟨rfl, rfl⟩
      clear kp
      go_wp2_with fail
      go_ret
      exact ⟨rfl, Hb5.out⟩
end Go.Proofs.YtinmhdikldmcgaaDoor
