/- The walks of layer 1: what an eye is asked, the code's and the document's. -/
import Derived.Test.YtmmcmldcbdaooaaDoorInkTake
import Derived.Test.YtmmcmldcbdaooaaDoorInkC
namespace Go.Proofs.YtmmcmldcbdaooaaDoor
open Go.RowKit Go.Quad _root_.Quad.Ink

/-- an eye's state: what is left; has it failed -/
abbrev St := List UInt8 × Bool

def numS (s : St) : Nat × St := if s.2 then (0, s) else numTo s.1
def failS : St := ([], true)
def intS (s : St) : Nat × St := if 2147483647 < (numS s).1 then (0, failS) else numS s
def boolS (s : St) : Bool × St := if 1 < (numS s).1 then (false, failS) else ((numS s).1 == 1, (numS s).2)
def textS (s : St) : List UInt8 × St :=
  if (numS s).2.2 then ([], (numS s).2) else if (numS s).2.1.length < (numS s).1 then ([], failS) else ((numS s).2.1.take (numS s).1, ((numS s).2.1.drop (numS s).1, false))

theorem rd_lt {p r : List UInt8} {n : Nat} (h : rd 0 p = some (n, r)) : n < 18446744073709551616 := by
  have key : ∀ (p : List UInt8) (i n : Nat) (r : List UInt8), i ≤ 9 → rd i p = some (n, r) → n * 128 ^ i < 18446744073709551616 := by
    intro p
    induction p with
    | nil => intro i n r _ h; simp [rd] at h
    | cons b q ih =>
      intro i n r hi h
      rw [rd, if_neg (by omega)] at h
      by_cases h9 : i = 9 ∧ 1 < b.toNat
      · rw [if_pos h9] at h; cases h
      · rw [if_neg h9] at h
        have h8 : ∀ j : Fin 9, 128 ^ j.val * 128 ≤ 9223372036854775808 := by decide
        by_cases h1 : b.toNat < 128
        · rw [if_pos h1] at h
          split at h
          · cases h
          · cases h
            by_cases h99 : i = 9
            · subst h99
              have : b.toNat ≤ 1 := by omega
              have e : (128 : Nat) ^ 9 = 9223372036854775808 := by decide
              rw [e]; omega
            · have h2 := h8 ⟨i, by omega⟩
              dsimp only at h2
              have h3 : b.toNat * 128 ^ i ≤ 127 * 128 ^ i := Nat.mul_le_mul_right _ (by omega)
              omega
        · rw [if_neg h1, Option.map_eq_some_iff] at h
          obtain ⟨⟨n', r'⟩, h2, h3⟩ := h
          cases h3
          have h99 : i ≠ 9 := by intro e; exact h9 ⟨e, by omega⟩
          have hn := ih (i + 1) n' r' (by omega) h2
          rw [Nat.pow_succ] at hn
          have h4 := h8 ⟨i, by omega⟩
          dsimp only at h4
          have h5 : (b.toNat % 128) * 128 ^ i ≤ 127 * 128 ^ i := Nat.mul_le_mul_right _ (by omega)
          have e1 : (b.toNat % 128 + 128 * n') * 128 ^ i = (b.toNat % 128) * 128 ^ i + n' * (128 ^ i * 128) := by
            rw [Nat.add_mul, Nat.mul_comm 128 n', Nat.mul_assoc, Nat.mul_comm 128 (128 ^ i)]
          have hdiv : 128 ^ i * 128 ∣ 18446744073709551616 := by
            have hd : ∀ j : Fin 9, 18446744073709551616 % (128 ^ j.val * 128) = 0 := by decide
            exact Nat.dvd_of_mod_eq_zero (hd ⟨i, by omega⟩)
          obtain ⟨c, hc⟩ := hdiv
          rw [e1]
          have h6 : n' < c := by
            have hpos : 0 < 128 ^ i * 128 := Nat.mul_pos (Nat.pow_pos (by decide)) (by decide)
            rw [hc, Nat.mul_comm n'] at hn
            exact Nat.lt_of_mul_lt_mul_left hn
          have h7 : n' * (128 ^ i * 128) + 128 ^ i * 128 ≤ 18446744073709551616 := by
            rw [hc]
            have : (128 ^ i * 128) * (n' + 1) ≤ (128 ^ i * 128) * c := Nat.mul_le_mul_left _ h6
            rw [Nat.mul_add, Nat.mul_one, Nat.mul_comm _ n'] at this
            exact this
          have hp : 0 < 128 ^ i := Nat.pow_pos (by decide)
          omega
  have := key p 0 n r (by omega) h
  simpa using this

theorem numS_lt (s : St) : (numS s).1 < 18446744073709551616 := by
  unfold numS
  split
  · simp
  · unfold numTo
    split
    · rename_i n r h; exact rd_lt h
    · simp

set_option maxHeartbeats 400000 in
theorem enum_calls (w : World) (B g : Nat) (s : St) (h : EyeAt w B g s.1 s.2) :
    Calls Tryd.prog 79 #[.pointer (some ⟨g, 0, none⟩)] w fun e w' =>
      e = .returned (.int .u64 ((numS s).1 : Int)) ∧ EyeAt w' B g (numS s).2.1 (numS s).2.2 ∧ Chg [g] w w' := by
  obtain ⟨p, bad⟩ := s
  cases bad
  · exact eyenum_calls w B g p h
  · have c1 : w.cell? ⟨g, 1, none⟩ = some (.bool true) := by
      obtain ⟨a, cap, h⟩ := h
      rw [h.own.cell]; rfl
    have H := hid h
    clear h
    go_enter Tryd.func79, Tryd.ntmps79
    go_wp2_with fail
    go_ret
    exact ⟨rfl, H.out, Chg.refl _ _⟩

/-- 'fail' at whatever state -/
theorem efail_calls (w : World) (B g : Nat) (p : List UInt8) (bad : Bool) (h : EyeAt w B g p bad) :
    Calls Tryd.prog 82 #[.pointer (some ⟨g, 0, none⟩)] w fun e w' => e = .returned (.int .u64 0) ∧ EyeAt w' B g [] true ∧ Chg [g] w w' := by
  obtain ⟨a, cap, h⟩ := h
  have c0 : w.cell? ⟨g, 0, none⟩ = some (.slice a p.length cap) := by rw [h.own.cell]; rfl
  have c1 : w.cell? ⟨g, 1, none⟩ = some (.bool bad) := by rw [h.own.cell]; rfl
  have f0 := h.own.free 0
  have f1 := h.own.free 1
  have H := hid h
  clear h
  go_enter Tryd.func82, Tryd.ntmps82
  go_wp2_with fail
  go_ret
  have hB := H.out.own.set 1 (.bool true)
  refine ⟨rfl, ⟨none, 0, ?_, BS.nil _, H.out.ge, by simp, by simp, by simp⟩, (chg_setCell w g 1 _).trans (chg_setCell _ g 0 _)⟩
  have := hB.set 0 (.slice none 0 0)
  simpa using this

set_option maxHeartbeats 400000 in
theorem eint_calls (w : World) (B g : Nat) (s : St) (h : EyeAt w B g s.1 s.2) :
    Calls Tryd.prog 49 #[.pointer (some ⟨g, 0, none⟩)] w fun e w' =>
      e = .returned (.int .i64 ((intS s).1 : Int)) ∧ EyeAt w' B g (intS s).2.1 (intS s).2.2 ∧ Chg [g] w w' := by
  have en := enum_calls w B g s h
  have hlt := numS_lt s
  unfold intS
  generalize numS s = q at en hlt ⊢
  obtain ⟨n, p, bad⟩ := q
  dsimp only at en hlt ⊢
  have En := hid en
  clear en h
  by_cases hn : 2147483647 < n
  · rw [if_pos hn]
    have hn' : (2147483647 : Int) < (n : Int) := by omega
    clear hlt hn
    go_enter Tryd.func49, Tryd.ntmps49
    go_wp2_with fail
    refine En.out.mono ?_
    rintro e w1 ⟨rfl, h1, hc1⟩
    have H1 := hid h1
    have C1 := hid hc1
    clear h1 hc1
    go_wp2_with fail
    refine (efail_calls w1 B g p bad H1.out).mono ?_
    rintro e w2 ⟨rfl, h2, hc2⟩
    have H2 := hid h2
    have C2 := hid hc2
    clear h2 hc2
    go_wp2_with fail
    go_ret
    exact ⟨rfl, H2.out, C1.out.trans C2.out⟩
  · rw [if_neg hn]
    have hn' : ¬ ((2147483647 : Int) < (n : Int)) := by omega
    clear hlt hn
    go_enter Tryd.func49, Tryd.ntmps49
    go_wp2_with fail
    refine En.out.mono ?_
    rintro e w1 ⟨rfl, h1, hc1⟩
    have H1 := hid h1
    have C1 := hid hc1
    clear h1 hc1
    go_wp2_with fail
    go_ret
    refine ⟨?_, H1.out, C1.out⟩
    first | rfl | (congr 2; go_num)

set_option maxHeartbeats 400000 in
theorem ebool_calls (w : World) (B g : Nat) (s : St) (h : EyeAt w B g s.1 s.2) :
    Calls Tryd.prog 65 #[.pointer (some ⟨g, 0, none⟩)] w fun e w' =>
      e = .returned (.bool (boolS s).1) ∧ EyeAt w' B g (boolS s).2.1 (boolS s).2.2 ∧ Chg [g] w w' := by
  have en := enum_calls w B g s h
  unfold boolS
  generalize numS s = q at en ⊢
  obtain ⟨n, p, bad⟩ := q
  dsimp only at en ⊢
  have En := hid en
  clear en h
  by_cases hn : 1 < n
  · rw [if_pos hn]
    have hn' : (1 : Int) < (n : Int) := by omega
    clear hn
    go_enter Tryd.func65, Tryd.ntmps65
    go_wp2_with fail
    refine En.out.mono ?_
    rintro e w1 ⟨rfl, h1, hc1⟩
    have H1 := hid h1
    have C1 := hid hc1
    clear h1 hc1
    go_wp2_with fail
    refine (efail_calls w1 B g p bad H1.out).mono ?_
    rintro e w2 ⟨rfl, h2, hc2⟩
    have H2 := hid h2
    have C2 := hid hc2
    clear h2 hc2
    go_wp2_with fail
    go_ret
    exact ⟨rfl, H2.out, C1.out.trans C2.out⟩
  · rw [if_neg hn]
    have hn' : ¬ ((1 : Int) < (n : Int)) := by omega
    have he : ((n : Int) == 1) = (n == 1) := by
      by_cases h1 : n = 1
      · subst h1; rfl
      · have a1 : (n == 1) = false := by simpa using h1
        have a2 : ((n : Int) == 1) = false := by simp; omega
        rw [a1, a2]
    have He := hid he
    clear hn he
    go_enter Tryd.func65, Tryd.ntmps65
    go_wp2_with fail
    refine En.out.mono ?_
    rintro e w1 ⟨rfl, h1, hc1⟩
    have H1 := hid h1
    have C1 := hid hc1
    clear h1 hc1
    go_wp2_with fail
    go_ret
    refine ⟨?_, H1.out, C1.out⟩
    rw [← He.out]
    rfl

theorem numS_len (s : St) : (numS s).2.1.length ≤ s.1.length := by
  unfold numS
  split
  · exact Nat.le_refl _
  · unfold numTo
    split
    · rename_i n r h
      obtain ⟨k, rfl, _⟩ := rd_behind h
      rw [List.length_drop]; omega
    · simp

/-- an eye goes on by n bytes -/
theorem IsEye.skip {w w' : World} {B g b off cap : Nat} {p : List UInt8} {bad : Bool} (h : IsEye w B g (some ⟨b, off, none⟩) cap p bad) (hb : Below w.heap.size w w') (n : Nat) (hn : n ≤ p.length) (o' : Nat) (ho : cap = n ∨ o' = off + n) :
    EyeAt (w'.setCell ⟨g, 0, none⟩ (.slice (some ⟨b, o', none⟩) (p.length - n) (cap - n))) B g (p.drop n) bad := by
  have h' : IsEye w' B g (some ⟨b, off, none⟩) cap p bad := ⟨h.own.below hb, h.row.below hb, h.ge, h.up, h.lt, h.form⟩
  have hf := h.row.fit'
  have hm := CS.max h.row
  have hl : (p.drop n).length = p.length - n := List.length_drop
  have hB : BS w' (some ⟨b, o', none⟩) (cap - n) (p.drop n) := by
    by_cases h0 : n = p.length
    · have : p.drop n = [] := List.eq_nil_of_length_eq_zero (by omega)
      rw [this]
      exact ⟨by simp, by omega, by simp, .inl (by simp)⟩
    · rcases ho with rfl | rfl
      · omega
      · obtain ⟨b', off', e, hc⟩ := BS.at h'.row (by omega)
        cases e
        refine BS.of_row (len := p.length - n) hl (by omega) (by omega) fun i hi => ?_
        have := hc (n + i) (by omega)
        rw [show off + n + i = off + (n + i) from by omega, this]
        simp
  have := h'.put hB (fun x hx => by cases hx; exact h.up ⟨b, off, none⟩ rfl) (fun x hx => by cases hx; exact h.lt ⟨b, off, none⟩ rfl) (fun x hx => by cases hx; rfl)
  rw [hl] at this
  exact ⟨_, _, this⟩

set_option maxHeartbeats 1000000 in
theorem etext_calls (w : World) (B g : Nat) (s : St) (h : EyeAt w B g s.1 s.2) (hl : s.1.length ≤ 1000000) (hB : B ≤ w.heap.size) :
    Calls Tryd.prog 50 #[.pointer (some ⟨g, 0, none⟩)] w fun e w' =>
      ∃ a c, e = .returned (.slice a (textS s).1.length c) ∧ BS w' a c (textS s).1 ∧ EyeAt w' B g (textS s).2.1 (textS s).2.2 ∧ Chg [g] w w' ∧ (∀ x, a = some x → w.heap.size ≤ x.block) := by
  have en := enum_calls w B g s h
  have hlt := numS_lt s
  have hlen := numS_len s
  unfold textS
  generalize numS s = q at en hlt hlen ⊢
  obtain ⟨n, p, bad⟩ := q
  dsimp only at en hlt hlen ⊢
  have hp : p.length ≤ 1000000 := by omega
  have En := hid en
  clear en h hl hlen
  cases bad
  · rw [if_neg (by decide)]
    by_cases hn : p.length < n
    · rw [if_pos hn]
      have hn' : (p.length : Int) < (n : Int) := by omega
      have hp' : (p.length : Int) ≤ 1000000 := by omega
      clear hn
      go_enter Tryd.func50, Tryd.ntmps50
      go_wp2_with fail
      refine En.out.mono ?_
      rintro e w1 ⟨rfl, h1, hc1⟩
      have H1 := hid h1
      have C1 := hid hc1
      obtain ⟨a, cap, hI⟩ := h1
      have c0 : w1.cell? ⟨g, 0, none⟩ = some (.slice a p.length cap) := by rw [hI.own.cell]; rfl
      have c1 : w1.cell? ⟨g, 1, none⟩ = some (.bool false) := by rw [hI.own.cell]; rfl
      clear hI hc1
      go_wp2_with fail
      refine (efail_calls w1 B g p false H1.out).mono ?_
      rintro e w2 ⟨rfl, h2, hc2⟩
      have H2 := hid h2
      have C2 := hid hc2
      clear h2 hc2
      go_wp2_with fail
      go_ret
      exact ⟨none, 0, rfl, BS.nil _, H2.out, C1.out.trans C2.out, by simp⟩
    · rw [if_neg hn]
      have hn' : ¬ ((p.length : Int) < (n : Int)) := by omega
      have hp' : (p.length : Int) ≤ 1000000 := by omega
      go_enter Tryd.func50, Tryd.ntmps50
      go_wp2_with fail
      refine En.out.mono ?_
      rintro e w1 ⟨rfl, h1, hc1⟩
      have C1 := hid hc1
      obtain ⟨a, cap, hI⟩ := h1
      have hf := hI.row.fit'
      have hmx := CS.max hI.row
      have c0 : w1.cell? ⟨g, 0, none⟩ = some (.slice a p.length cap) := by rw [hI.own.cell]; rfl
      have c1 : w1.cell? ⟨g, 1, none⟩ = some (.bool false) := by rw [hI.own.cell]; rfl
      have HI := hid hI
      have hmx' : (cap : Int) ≤ 9223372036854775807 := by unfold maxLen at hmx; omega
      have hfn : n ≤ cap := by omega
      clear hI hc1 hmx
      go_wp2_with fail
      have hlt' : (p.take n).length = n := by rw [List.length_take]; omega
      have cl := clone_calls a cap (p.take n) w1 (HI.out.row.take n) (by omega)
      rw [hlt'] at cl
      refine cl.mono ?_
      rintro e w2 ⟨v, rfl, ho, hb2⟩
      obtain ⟨a2, c2, rfl, hs2, hx2⟩ := ho.bs
      have S2 := hid hs2
      have X2 := hid hx2
      have HI2 := hid (show IsEye w2 B g a cap p false from ⟨HI.out.own.below hb2, HI.out.row.below hb2, HI.out.ge, HI.out.up, HI.out.lt, HI.out.form⟩)
      have Hb2 := hid hb2
      have Hlt := hid hlt'
      have glt := hid HI.out.own.lt
      have S3 : Kept (∀ v, BS (w2.setCell ⟨g, 0, none⟩ v) a2 c2 (p.take n)) := ⟨fun v => cs_chg S2.out (chg_setCell w2 g 0 v) (fun x hx hm => by simp at hm; have := (X2.out x hx).2.2.1; have := glt.out; omega)⟩
      have C3 : Kept (∀ v, Chg [g] w (w2.setCell ⟨g, 0, none⟩ v)) := ⟨fun v => (C1.out.trans (Chg.of_below _ Hb2.out)).trans (chg_setCell w2 g 0 v)⟩
      clear cl ho hs2 hx2 hb2 c0 c1 hlt'
      have c0 : w2.cell? ⟨g, 0, none⟩ = some (.slice a p.length cap) := by rw [HI2.out.own.cell]; rfl
      have f0 := HI2.out.own.free 0
      cases a with
      | none =>
        have hc0 := CS.none HI2.out.row rfl
        subst hc0
        have hp0 : p = [] := List.eq_nil_of_length_eq_zero (by omega)
        subst hp0
        have hn0 : n = 0 := by omega
        subst hn0
        go_wp2_with fail
        go_ret
        exact ⟨a2, c2, rfl, S3.out _, ⟨none, 0, HI2.out.put (BS.nil w2) (by simp) (by simp) (by simp)⟩, C3.out _, fun x hx => Nat.le_trans C1.out.size (X2.out x hx).2.2.1⟩
      | some x =>
        obtain ⟨b, off, spot⟩ := x
        have hsp := HI2.out.form _ rfl
        dsimp only at hsp
        subst hsp
        have hmin : min n p.length = n := by omega
        have Hmin := hid hmin
        clear hmin
        go_wp2_with fail
        all_goals go_ret
        all_goals refine ⟨a2, c2, rfl, S3.out _, ?_, C3.out _, fun x hx => Nat.le_trans C1.out.size (X2.out x hx).2.2.1⟩
        · have hcn : cap = n := by assumption
          have := HI2.out.skip (Below.refl _ w2) n (by omega) off (.inl hcn)
          rw [show cap - n = 0 from by omega] at this
          exact this
        · exact HI2.out.skip (Below.refl _ w2) n (by omega) _ (.inr rfl)
  · rw [if_pos rfl]
    go_enter Tryd.func50, Tryd.ntmps50
    go_wp2_with fail
    refine En.out.mono ?_
    rintro e w1 ⟨rfl, h1, hc1⟩
    have H1 := hid h1
    have C1 := hid hc1
    obtain ⟨a, cap, hI⟩ := h1
    have c1 : w1.cell? ⟨g, 1, none⟩ = some (.bool true) := by rw [hI.own.cell]; rfl
    clear hI hc1
    go_wp2_with fail
    go_ret
    exact ⟨none, 0, rfl, BS.nil _, H1.out, C1.out, by simp⟩
end Go.Proofs.YtmmcmldcbdaooaaDoor
