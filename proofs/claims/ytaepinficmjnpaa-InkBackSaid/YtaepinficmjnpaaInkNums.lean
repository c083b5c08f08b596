/- The walk of InkNums: every number has just its bytes, and is read again, whatever stands behind. -/
import Derived.Test.YtaepinficmjnpaaInkOrder
namespace Go.Proofs.Ytaepinficmjnpaa
open Go.RowKit Go.Quad _root_.Quad.Ink

theorem cut600 {w : World} {a : Option Addr} {cap : Nat} {l : List UInt8} (h : BS w a cap l) (m : Nat) : ∃ (L : List UInt8) (n : Nat), L.length = n ∧ n ≤ m ∧ BS w a cap L ∧ ((l.length ≤ m ∧ n = l.length) ∨ (m < l.length ∧ n = m)) := by
  by_cases hs : l.length ≤ m
  · exact ⟨l, _, rfl, hs, h, .inl ⟨hs, rfl⟩⟩
  · exact ⟨l.take m, m, by rw [List.length_take]; omega, Nat.le_refl _, h.take m, .inr ⟨by omega, rfl⟩⟩


set_option maxHeartbeats 1000000 in
theorem inkNums_walk (x : Int) (a : Option Addr) (cap : Nat) (l : List UInt8) (w : World) (hx : (Lit.int .u64 x).wf = true) (h : BS w a cap l) :
    Calls Try.prog 4 #[.int .u64 x, .slice a l.length cap] w fun e w' => e = .returned (.bool true) ∧ Below w.heap.size w w' := by
  obtain ⟨n, rfl, hn⟩ := nat_of_u64 hx
  have hl := h.max'
  have hf := h.fit'
  obtain ⟨L, N, hL, hN, hB, hcase⟩ := cut600 h 100
  have HL := hid hL
  have HN := hid hN
  have H := hid hB
  have Hn := hid hn
  have Ln := hid (numL_len10 hn)
  have R := hid (show numTo (numL n ++ L) = (n, L, false) by unfold numTo; rw [rd_num0 L hn])
  clear h hL hN hB hx hn
  rcases hcase with ⟨hs, rfl⟩ | ⟨hs, rfl⟩
  all_goals
    go_enter Try.func4, Try.ntmps4
    go_wp2_with fail
    refine (awake_calls w).mono ?_
    rintro e w1 ⟨rfl, hb1⟩
    have H1 := hid hb1
    clear hb1
    go_wp2_with fail
    refine (new_calls w1).mono ?_
    rintro e w2 ⟨g, rfl, hp, hg, hb2⟩
    have P2 := hid (hp.base H1.out.size)
    have H2 := hid (H1.out.trans (hb2.mono H1.out.size))
    clear hp hg hb2
    go_wp2_with fail
    refine (pennum_calls n Hn.out w2 _ g _ _ P2.out (by simp)).mono ?_
    rintro e w3 ⟨rfl, s3, hp, hc, _⟩
    rw [List.nil_append] at hp
    have P3 := hid hp
    have H3 := hid (below_chg H2.out H2.out.size hc P2.out.pens)
    clear hp hc
    go_wp2_with fail
    refine (bytes_calls _ _ g _ _ P3.out (by have := Ln.out; omega)).mono ?_
    rintro e w4 ⟨v, rfl, ho, hb⟩
    obtain ⟨a4, c4, rfl, hs4, _⟩ := ho.bs
    have S4 := hid hs4
    have P4 := hid (P3.out.below hb)
    have H4 := hid (H3.out.trans (hb.mono H3.out.size))
    clear ho hs4 hb
    go_wp2_with fail
    refine (refnum_calls n Hn.out w4).mono ?_
    rintro e w5 ⟨v, rfl, ho, hb⟩
    obtain ⟨a5, c5, rfl, hs5, _⟩ := ho.bs
    have sm := same_calls _ _ _ _ _ _ _ (S4.out.below hb) hs5
    rw [beq_self_eq_true] at sm
    have C := hid sm
    have P5 := hid (P4.out.below hb)
    have H5 := hid (H4.out.trans (hb.mono H4.out.size))
    clear ho hs5 hb sm
    go_wp2_with fail
    refine C.out.mono ?_
    rintro e w' ⟨rfl, rfl⟩
    go_wp2_with fail
    refine (bytes_calls _ _ g _ _ P5.out (by have := Ln.out; omega)).mono ?_
    rintro e w6 ⟨v, rfl, ho, hb⟩
    have H6 := hid (H5.out.trans (hb.mono H5.out.size))
    have hown := ho.base H5.out.size
    obtain ⟨a6, c6, rfl, _, _⟩ := ho.bs
    have hsrc := H.out.below H6.out
    clear ho hb
    go_wp2_with (at_builtin; refine wpList_append_b (.tmp 25) (.tmp 26) _ rfl rfl _ 5 info_u8 under_bytes _ _ hown rfl hsrc (by rw [HL.out]; rfl) (by have := Ln.out; have := HL.out; have := HN.out; omega) H6.out.size ?_; intro v7 w7 hown7 hg7 hb7 _)
    obtain ⟨a7, c7, rfl, hs7, _⟩ := hown7.bs
    have H7 := hid (H6.out.trans hb7)
    clear hown hsrc hown7 hg7 hb7
    refine (read_calls _ _ _ _ hs7 (by have := Ln.out; have := HL.out; have := HN.out; rw [List.length_append]; omega)).mono ?_
    rintro e w8 ⟨g8, rfl, hE, hb8⟩
    have HE := hid hE
    have H8 := hid (H7.out.trans (hb8.mono H7.out.size))
    obtain ⟨_, _, hI⟩ := hE
    have G8 := hid (Nat.le_trans H7.out.size hI.ge)
    clear hI hs7 hb8
    go_wp2_with fail
    refine (eyenum_calls _ _ g8 _ HE.out).mono ?_
    rw [R.out]
    rintro e w9 ⟨rfl, hE9, hc9⟩
    have HE9 := hid hE9
    have H9 := hid (below_chg H8.out H8.out.size hc9 (by intro k hk; simp at hk; rw [hk]; exact G8.out))
    clear hE9 hc9
    go_wp2_with fail
    have lf := left_calls _ _ g8 _ _ HE9.out
    rw [HL.out] at lf
    refine lf.mono ?_
    rintro e w' ⟨rfl, rfl⟩
    clear lf
    go_wp2_with fail
    go_ret
    exact ⟨rfl, H9.out⟩
end Go.Proofs.Ytaepinficmjnpaa
