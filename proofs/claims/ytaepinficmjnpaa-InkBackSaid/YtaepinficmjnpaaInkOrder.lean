/- The walk of InkOrder: a greater number never has fewer bytes, and two unlike numbers never the same. -/
import Derived.Test.YtaepinficmjnpaaInkC
namespace Go.Proofs.Ytaepinficmjnpaa
open Go.RowKit Go.Quad _root_.Quad.Ink

theorem nat_of_u64 {n : Int} (h : (Lit.int .u64 n).wf = true) : ∃ k : Nat, n = k ∧ k < 18446744073709551616 := by
  simp [Lit.wf, IntKind.min, IntKind.max, IntKind.signed, IntKind.bits] at h
  exact ⟨n.toNat, by omega, by omega⟩

theorem IsPen.base {w : World} {B B' g : Nat} {s : Value} {l : List UInt8} {bad : Bool} (h : IsPen w B g s l bad) (hb : B' ≤ B) : IsPen w B' g s l bad := ⟨h.own, h.row.base hb, Nat.le_trans hb h.ge, h.ne⟩

set_option maxHeartbeats 1000000 in
theorem inkOrder_walk (x y : Int) (w : World) (hx : (Lit.int .u64 x).wf = true) (hy : (Lit.int .u64 y).wf = true) :
    Calls Try.prog 3 #[.int .u64 x, .int .u64 y] w fun e w' => e = .returned (.bool true) ∧ Below w.heap.size w w' := by
  obtain ⟨a, rfl, ha⟩ := nat_of_u64 hx
  obtain ⟨b, rfl, hb⟩ := nat_of_u64 hy
  have Ha := hid ha
  have Hb := hid hb
  have La := hid (numL_len10 ha)
  have Lb := hid (numL_len10 hb)
  have Pa := hid (numL_pos a)
  clear hx hy ha hb
  go_enter Try.func3, Try.ntmps3
  go_wp2_with fail
  refine (awake_calls w).mono ?_
  rintro e w1 ⟨rfl, hb1⟩
  have H1 := hid hb1
  clear hb1
  go_wp2_with fail
  refine (new_calls w1).mono ?_
  rintro e w2 ⟨g, rfl, hp, hg, hb2⟩
  have P2 := hid (hp.base H1.out.size)
  have H2 := hid (H1.out.trans (hb2.mono H1.out.size))
  clear hp hg hb2
  go_wp2_with fail
  refine (new_calls w2).mono ?_
  rintro e w3 ⟨g', rfl, hp, hg, hb3⟩
  have Q3 := hid (hp.base H2.out.size)
  have P3 := hid (P2.out.below hb3)
  have H3 := hid (H2.out.trans (hb3.mono H2.out.size))
  have Ne := hid (show g ≠ g' by have := P2.out.own.lt; omega)
  clear hp hg hb3
  go_wp2_with fail
  refine (pennum_calls a Ha.out w3 _ g _ _ P3.out (by simp)).mono ?_
  rintro e w4 ⟨rfl, s4, hp, hc, hw⟩
  have P4 := hid hp
  have Q4 := hid (Q3.out.chg hc (by intro hm; simp [penS, Value.ownBlock] at hm; exact Ne.out hm.symm) (by intro k hk; cases hk))
  have H4 := hid (below_chg H3.out H3.out.size hc P3.out.pens)
  have W4 := hid (show ∀ k, s4.ownBlock = some k → k ≠ g' from fun k hk e => by
    rcases hw k hk with h | h
    · cases h
    · have := Q3.out.own.lt; omega)
  clear hp hc hw
  go_wp2_with fail
  refine (pennum_calls b Hb.out w4 _ g' _ _ Q4.out (by simp)).mono ?_
  rintro e w5 ⟨rfl, s5, hp, hc, hw⟩
  have Q5 := hid hp
  have P5 := hid (P4.out.chg hc (by intro hm; simp [penS, Value.ownBlock] at hm; exact Ne.out hm) (by intro k hk hm; simp [penS, Value.ownBlock] at hm; exact W4.out k hk hm))
  have H5 := hid (below_chg H4.out H4.out.size hc Q4.out.pens)
  clear hp hc hw
  go_wp2_with fail
  refine (bytes_calls _ _ g _ _ P5.out (by have := La.out; simp; omega)).mono ?_
  rintro e w6 ⟨v, rfl, ho, hb⟩
  obtain ⟨a6, c6, rfl, hs6, _⟩ := ho.bs
  have S6 := hid hs6
  have Q6 := hid (Q5.out.below hb)
  have H6 := hid (H5.out.trans (hb.mono H5.out.size))
  clear ho hs6 hb
  go_wp2_with fail
  refine (bytes_calls _ _ g' _ _ Q6.out (by have := Lb.out; simp; omega)).mono ?_
  rintro e w7 ⟨v, rfl, ho, hb⟩
  obtain ⟨a7, c7, rfl, hs7, _⟩ := ho.bs
  have sm := same_calls _ _ _ _ _ _ _ (S6.out.below hb) hs7
  have H7 := hid (H6.out.trans (hb.mono H6.out.size))
  have M1 := numL_mono (a := a) (b := b)
  have I1 := numL_inj (a := a) (b := b)
  have l1 := La.out
  have l2 := Pa.out
  clear ho hs7 hb
  rw [List.nil_append, List.nil_append] at sm
  have l1' : ((numL a).length : Int) ≤ 10 := by omega
  have l2' : (1 : Int) ≤ ((numL a).length : Int) := by omega
  rcases Nat.lt_trichotomy a b with hab | hab | hab
  · have c1 : ((a : Int) == (b : Int)) = false := by simp; omega
    have c2 : ¬ ((b : Int) < (a : Int)) := by omega
    have c3 : ((numL a).length : Int) ≤ ((numL b).length : Int) := by have := M1 (by omega); omega
    have c4 : ((numL a == numL b) : Bool) = false := by simp only [beq_iff_eq, beq_eq_false_iff_ne]; intro h; have := I1 h; omega
    rw [c4] at sm
    have C := hid sm
    clear sm c4 hab M1 I1
    go_wp2_with fail
    refine C.out.mono ?_
    rintro e w' ⟨rfl, rfl⟩
    go_wp2_with fail
    go_ret
    exact ⟨rfl, H7.out⟩
  · subst hab
    have c1 : ((a : Int) == (a : Int)) = true := by simp
    have c2 : ¬ ((a : Int) < (a : Int)) := by omega
    rw [beq_self_eq_true] at sm
    have C := hid sm
    clear sm M1 I1
    go_wp2_with fail
    refine C.out.mono ?_
    rintro e w' ⟨rfl, rfl⟩
    go_wp2_with fail
    go_ret
    exact ⟨rfl, H7.out⟩
  · have c1 : ((a : Int) == (b : Int)) = false := by simp; omega
    have c2 : (b : Int) < (a : Int) := by omega
    have c4 : ((numL a == numL b) : Bool) = false := by simp only [beq_iff_eq, beq_eq_false_iff_ne]; intro h; have := I1 h; omega
    rw [c4] at sm
    have C := hid sm
    clear sm c4 hab M1 I1
    go_wp2_with fail
    refine C.out.mono ?_
    rintro e w' ⟨rfl, rfl⟩
    go_wp2_with fail
    go_ret
    exact ⟨rfl, H7.out⟩
end Go.Proofs.Ytaepinficmjnpaa
