/- Plain: rows of numbers, and a text behind; what is read out of bytes is written again as just these bytes. -/
import Derived.Test.YtmmcmldcbdaooaaDoorKnotH
import Derived.Test.YtmmcmldcbdaooaaDoorInkD
namespace Quad.Ink

theorem rd_canon : ∀ (p : List UInt8) (i n : Nat) (r : List UInt8), rd i p = some (n, r) → p = numL n ++ r ∧ (0 < i → 0 < n)
  | [], i, n, r, h => by simp [rd] at h
  | b :: q, i, n, r, h => by
    rw [rd] at h
    split at h
    · cases h
    · split at h
      · cases h
      · by_cases h1 : b.toNat < 128
        · rw [if_pos h1] at h
          by_cases h0 : b.toNat = 0 ∧ 0 < i
          · rw [if_pos h0] at h; cases h
          · rw [if_neg h0] at h
            cases h
            rw [numL_small h1]
            exact ⟨by simp, fun hi => by omega⟩
        · rw [if_neg h1, Option.map_eq_some_iff] at h
          obtain ⟨⟨n', r'⟩, h2, h3⟩ := h
          cases h3
          obtain ⟨e, hp⟩ := rd_canon q (i + 1) n' r' h2
          have hp := hp (by omega)
          dsimp only
          rw [numL_big (by omega), show (b.toNat % 128 + 128 * n') / 128 = n' from by omega, List.cons_append, ← e]
          refine ⟨?_, fun _ => by omega⟩
          congr 1
          apply UInt8.toNat_inj.1
          have := b.toNat_lt
          simp
          omega

/-- numbers, one behind the other -/
def rowN (l : List Nat) : List UInt8 := l.flatMap numL
theorem rowN_cons (n : Nat) (l : List Nat) : rowN (n :: l) = numL n ++ rowN l := rfl
theorem rowN_append (l m : List Nat) : rowN (l ++ m) = rowN l ++ rowN m := by simp [rowN]
/-- and a text behind -/
def rowT (l : List Nat) (t : List UInt8) : List UInt8 := rowN l ++ (numL t.length ++ t)
def Small (l : List Nat) : Prop := ∀ n ∈ l, n < 18446744073709551616
end Quad.Ink
namespace Go.Proofs.YtmmcmldcbdaooaaDoor
open Go.RowKit Go.Quad _root_.Quad _root_.Quad.Ink

theorem numS_row (n : Nat) (r : List UInt8) (h : n < 18446744073709551616) : numS (numL n ++ r, false) = (n, (r, false)) := by
  unfold numS numTo
  rw [if_neg (by simp)]
  dsimp only
  rw [rd_num0 r h]

theorem numS_bad (p : List UInt8) : numS (p, true) = (0, (p, true)) := rfl

theorem numS_ok {s : St} {r : List UInt8} (h : (numS s).2 = (r, false)) : s = (numL (numS s).1 ++ r, false) ∧ (numS s).1 < 18446744073709551616 := by
  refine ⟨?_, numS_lt s⟩
  obtain ⟨p, b⟩ := s
  cases b with
  | true => cases h
  | false =>
    unfold numS numTo at h ⊢
    rw [if_neg (by simp)] at h ⊢
    dsimp only at h ⊢
    cases e : rd 0 p with
    | none => rw [e] at h; cases h
    | some x =>
      obtain ⟨n, q⟩ := x
      rw [e] at h
      cases h
      exact congrArg (·, false) (rd_canon p 0 n r e).1

theorem numS_state (s : St) : (numS s).2.2 = false ∨ (numS s).2 = (s.1, true) ∨ (numS s).2 = ([], true) := by
  obtain ⟨p, b⟩ := s
  cases b with
  | true => exact .inr (.inl rfl)
  | false =>
    unfold numS numTo
    rw [if_neg (by simp)]
    dsimp only
    cases rd 0 p with
    | none => exact .inr (.inr rfl)
    | some x => exact .inl rfl

def numsS : Nat → St → List Nat × St
  | 0, s => ([], s)
  | k + 1, s => ((numS s).1 :: (numsS k (numS s).2).1, (numsS k (numS s).2).2)

theorem numsS_len : ∀ (k : Nat) (s : St), (numsS k s).1.length = k
  | 0, _ => rfl
  | k + 1, s => by simp [numsS, numsS_len k]

theorem numsS_small : ∀ (k : Nat) (s : St), Small (numsS k s).1
  | 0, _ => fun n hn => by simp [numsS] at hn
  | k + 1, s => fun n hn => by
    rw [numsS] at hn
    rcases List.mem_cons.1 hn with rfl | hn
    · exact numS_lt s
    · exact numsS_small k _ n hn

theorem numsS_row : ∀ (l : List Nat) (r : List UInt8), Small l → numsS l.length (rowN l ++ r, false) = (l, (r, false))
  | [], _, _ => rfl
  | n :: l, r, h => by
    rw [List.length_cons, numsS, rowN_cons, List.append_assoc, numS_row _ _ (h n (by simp)), numsS_row l r fun m hm => h m (by simp [hm])]

theorem numsS_dead : ∀ (k : Nat) (p : List UInt8), (numsS k (p, true)).2.2 = true
  | 0, _ => rfl
  | k + 1, p => by rw [numsS, numS_bad]; exact numsS_dead k p

theorem numsS_ok : ∀ (k : Nat) (s : St) (r : List UInt8), (numsS k s).2 = (r, false) → s = (rowN (numsS k s).1 ++ r, false)
  | 0, s, r, h => h
  | k + 1, s, r, h => by
    rw [numsS] at h
    have h1 := numsS_ok k _ r h
    have h2 := (numS_ok h1).1
    rw [numsS]
    dsimp only
    rw [rowN_cons, List.append_assoc]
    exact h2

theorem numsS_append : ∀ (j k : Nat) (s : St), numsS (j + k) s = ((numsS j s).1 ++ (numsS k (numsS j s).2).1, (numsS k (numsS j s).2).2)
  | 0, k, s => by simp [numsS]
  | j + 1, k, s => by
    rw [show j + 1 + k = (j + k) + 1 from by omega, numsS, numsS_append j k, numsS]
    simp

theorem textS_row (t r : List UInt8) (h : t.length < 18446744073709551616) : textS (numL t.length ++ (t ++ r), false) = (t, (r, false)) := by
  unfold textS
  rw [numS_row _ _ h, if_neg (by simp), if_neg (by simp)]
  simp

theorem textS_ok {s : St} {r : List UInt8} (h : (textS s).2 = (r, false)) : s = (numL (textS s).1.length ++ ((textS s).1 ++ r), false) ∧ (textS s).1.length < 18446744073709551616 := by
  unfold textS at h ⊢
  by_cases h1 : (numS s).2.2 = true
  · rw [if_pos h1] at h
    dsimp only at h
    rw [h] at h1
    cases h1
  · rw [if_neg h1] at h ⊢
    by_cases h2 : (numS s).2.1.length < (numS s).1
    · rw [if_pos h2] at h; cases h
    · rw [if_neg h2] at h ⊢
      dsimp only at h ⊢
      have e : (numS s).2 = ((numS s).2.1, false) := by
        have : (numS s).2.2 = false := by simpa using h1
        rw [← this]
      obtain ⟨q1, q2⟩ := numS_ok e
      have hl : ((numS s).2.1.take (numS s).1).length = (numS s).1 := by rw [List.length_take]; omega
      rw [hl]
      refine ⟨?_, q2⟩
      cases h
      rw [List.take_append_drop]
      exact q1

theorem textS_dead (p : List UInt8) : textS (p, true) = ([], (p, true)) := rfl
theorem intS_dead (p : List UInt8) : intS (p, true) = (0, (p, true)) := rfl
theorem boolS_dead (p : List UInt8) : boolS (p, true) = (false, (p, true)) := rfl

/-! ### knots -/
theorem nextL_ok {p t r : List UInt8} (h : nextL p = (t, r, 0)) : t.length ≤ 2048 ∧ p = tieL t ++ r := by
  unfold nextL at h
  split at h
  · cases h
  · split at h
    · cases h
    · split at h
      · cases h
      · rename_i h1 h2 h3
        split at h
        · rename_i h4
          have he := refnext_eq p (lenL p) (by omega) rfl (by omega)
          rw [h4, beq_iff_eq] at he
          cases h
          refine ⟨by rw [List.length_take]; omega, ?_⟩
          rw [he, List.take_append_drop]
        · cases h

theorem nextL_codes (p : List UInt8) : (nextL p).2.2 = 0 ∨ ((nextL p).1 = [] ∧ (nextL p).2.1 = [] ∧ ((nextL p).2.2 = 2 ∨ (nextL p).2.2 = 3 ∨ (nextL p).2.2 = 5)) := by
  unfold nextL
  split
  · simp
  · split
    · simp
    · split
      · simp
      · split <;> simp

theorem untieL_ok {p t : List UInt8} (h : untieL p = (t, 0)) : t.length ≤ 2048 ∧ p = tieL t := by
  unfold untieL at h
  split at h
  · rename_i h0
    split at h
    · cases h
    · rename_i hr
      have hr' : (nextL p).2.1 = [] := List.eq_nil_of_length_eq_zero (by omega)
      cases h
      have := nextL_ok (p := p) (t := (nextL p).1) (r := []) (by rw [← hr', ← h0])
      simpa using this
  · rename_i h0
    simp only [Prod.mk.injEq] at h
    exact (h0 h.2).elim

theorem tieL_inj {a b : List UInt8} (ha : a.length ≤ 2048) (hb : b.length ≤ 2048) (h : tieL a = tieL b) : a = b := by
  have h1 := untieL_tie a ha
  rw [h, untieL_tie b hb] at h1
  exact (congrArg (·.1) h1).symm

theorem rowT_read (l : List Nat) (t : List UInt8) (hl : Small l) (ht : t.length < 18446744073709551616) :
    numsS l.length (rowT l t, false) = (l, (numL t.length ++ t, false)) ∧ textS (numL t.length ++ t, false) = (t, ([], false)) := by
  refine ⟨numsS_row l _ hl, ?_⟩
  have := textS_row t [] ht
  simpa using this

theorem rowN_read (l : List Nat) (hl : Small l) : numsS l.length (rowN l, false) = (l, ([], false)) := by
  have := numsS_row l [] hl
  simpa using this

theorem rowT_inj {l m : List Nat} {t u : List UInt8} (hlm : l.length = m.length) (hl : Small l) (hm : Small m) (ht : t.length < 18446744073709551616) (hu : u.length < 18446744073709551616) (h : rowT l t = rowT m u) : l = m ∧ t = u := by
  obtain ⟨a1, a2⟩ := rowT_read l t hl ht
  obtain ⟨b1, b2⟩ := rowT_read m u hm hu
  rw [h, hlm, b1] at a1
  simp only [Prod.mk.injEq, and_true] at a1
  obtain ⟨rfl, e⟩ := a1
  rw [← e, b2] at a2
  simp only [Prod.mk.injEq, and_true] at a2
  exact ⟨rfl, a2.symm⟩

theorem rowN_inj {l m : List Nat} (hlm : l.length = m.length) (hl : Small l) (hm : Small m) (h : rowN l = rowN m) : l = m := by
  have a1 := rowN_read l hl
  rw [h, hlm, rowN_read m hm] at a1
  simp only [Prod.mk.injEq, and_true] at a1
  exact a1.symm
end Go.Proofs.YtmmcmldcbdaooaaDoor
