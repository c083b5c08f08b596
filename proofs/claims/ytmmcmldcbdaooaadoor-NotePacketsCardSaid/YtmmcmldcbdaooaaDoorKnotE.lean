/- Plain: bits of which a pattern is turned leave another sum; a knot of which a burst is turned is none any more. -/
import Derived.Test.YtmmcmldcbdaooaaDoorKnotD
namespace Go.Proofs.YtmmcmldcbdaooaaDoor
open Go.Quad _root_.Quad

theorem ext_bits {l l' : List Bool} (hl : l.length = l'.length) (h : ∀ q, q < l.length → l.getD q false = l'.getD q false) : l = l' := by
  refine List.ext_getElem hl fun q h1 h2 => ?_
  have := h q h1
  rwa [List.getD_eq_getElem?_getD, List.getElem?_eq_getElem h1, List.getD_eq_getElem?_getD, List.getElem?_eq_getElem h2] at this

theorem turnAt_bits (l : List UInt8) (k q : Nat) (hk : k < 8 * l.length) (hq : q < 8 * l.length) : (bitsOf (turnAt l k)).getD q false = ((bitsOf l).getD q false ^^ decide (q = k)) := by
  rw [bitsOf_get _ q (by rw [turnAt_length]; exact hq), bitsOf_get l q hq]
  unfold turnAt
  have h8 : k % 8 < 8 := Nat.mod_lt _ (by omega)
  have h1 : (1 <<< (UInt8.ofNat (k % 8)) : UInt8).toNat = 2 ^ (k % 8) := by
    have : ∀ j : Fin 8, (1 <<< (UInt8.ofNat j.val) : UInt8).toNat = 2 ^ j.val := by decide
    exact this ⟨_, h8⟩
  by_cases h : q / 8 = k / 8
  · rw [h, List.getD_eq_getElem?_getD, List.getElem?_set_self (by omega), Option.getD_some, UInt8.toNat_xor, Nat.testBit_xor, h1, Nat.testBit_two_pow]
    congr 1
    rw [decide_eq_decide]
    omega
  · rw [List.getD_eq_getElem?_getD, List.getElem?_set_ne (fun e => h e.symm), ← List.getD_eq_getElem?_getD]
    have : ¬ q = k := fun e => h (by rw [e])
    simp [this]

theorem turnN_bits (at' pat : Nat) (l : List UInt8) (q : Nat) (hq : q < 8 * l.length) : ∀ i, (bitsOf (turnN at' pat i l)).getD q false = ((bitsOf l).getD q false ^^ (decide (at' ≤ q ∧ q < at' + i) && pat.testBit (q - at')))
  | 0 => by
    have : ¬ (at' ≤ q ∧ q < at' + 0) := by omega
    rw [decide_eq_false this, Bool.false_and, Bool.xor_false]; rfl
  | i + 1 => by
    have ih := turnN_bits at' pat l q hq i
    simp only [turnN]
    split
    · rename_i hc
      rw [Bool.and_eq_true, decide_eq_true_eq] at hc
      rw [turnAt_bits _ _ _ (by rw [turnN_length]; exact hc.2) (by rw [turnN_length]; exact hq), ih]
      by_cases h : q = at' + i
      · subst h
        have h1 : ¬ (at' ≤ at' + i ∧ at' + i < at' + i) := by omega
        have h2 : (at' ≤ at' + i ∧ at' + i < at' + (i + 1)) := by omega
        simp [h1, h2, hc.1]
      · have h3 : (at' ≤ q ∧ q < at' + (i + 1)) ↔ (at' ≤ q ∧ q < at' + i) := by omega
        simp [h, h3]
    · rename_i hc
      rw [Bool.and_eq_true, decide_eq_true_eq] at hc
      rw [ih]
      by_cases h : q = at' + i
      · subst h
        have h1 : ¬ (at' ≤ at' + i ∧ at' + i < at' + i) := by omega
        have h2 : pat.testBit i = false := by
          cases hb : pat.testBit i with
          | false => rfl
          | true => exact (hc ⟨hb, hq⟩).elim
        simp [h1, h2]
      · have h3 : (at' ≤ q ∧ q < at' + (i + 1)) ↔ (at' ≤ q ∧ q < at' + i) := by omega
        simp [h3]

/-- what is turned, as a list of bits -/
def burst (at' pat n : Nat) : List Bool := List.replicate at' false ++ (List.range (min 32 (n - at'))).map (fun i => pat.testBit i) ++ List.replicate (n - at' - min 32 (n - at')) false

theorem burst_length (at' pat n : Nat) (h : at' ≤ n) : (burst at' pat n).length = n := by
  unfold burst; simp; omega

theorem burst_get (at' pat n q : Nat) (_h : at' ≤ n) (hq : q < n) : (burst at' pat n).getD q false = (decide (at' ≤ q ∧ q < at' + 32) && pat.testBit (q - at')) := by
  unfold burst
  rw [List.getD_eq_getElem?_getD]
  rcases Nat.lt_or_ge q at' with h1 | h1
  · have : ¬ (at' ≤ q ∧ q < at' + 32) := by omega
    rw [List.append_assoc, List.getElem?_append_left (by simpa using h1), List.getElem?_replicate]
    simp [this, h1]
  · rcases Nat.lt_or_ge q (at' + min 32 (n - at')) with h2 | h2
    · have : (at' ≤ q ∧ q < at' + 32) := by omega
      rw [List.getElem?_append_left (by simp; omega), List.getElem?_append_right (by simpa using h1), List.length_replicate, List.getElem?_map, List.getElem?_range (by omega)]
      simp [this]
    · have : ¬ (at' ≤ q ∧ q < at' + 32) := by omega
      rw [List.getElem?_append_right (by simp; omega), List.getElem?_replicate]
      simp only [this, decide_false, Bool.false_and]
      split <;> rfl

theorem turnN_burst (at' pat : Nat) (l : List UInt8) (h : at' ≤ 8 * l.length) : bitsOf (turnN at' pat 32 l) = List.zipWith (· ^^ ·) (bitsOf l) (burst at' pat (8 * l.length)) := by
  have hl : (burst at' pat (8 * l.length)).length = (bitsOf l).length := by rw [burst_length _ _ _ h, bitsOf_length]
  refine ext_bits (by rw [bitsOf_length, turnN_length, List.length_zipWith, hl, Nat.min_self, bitsOf_length]) fun q hq => ?_
  rw [bitsOf_length, turnN_length] at hq
  rw [turnN_bits at' pat l q hq 32, ← burst_get at' pat (8 * l.length) q h hq]
  have h1 : q < (bitsOf l).length := by rw [bitsOf_length]; exact hq
  have h2 : q < (burst at' pat (8 * l.length)).length := by rw [hl]; exact h1
  rw [List.getD_eq_getElem?_getD, List.getD_eq_getElem?_getD, List.getD_eq_getElem?_getD, List.getElem?_eq_getElem h1, List.getElem?_eq_getElem h2, List.getElem?_eq_getElem (by rw [List.length_zipWith]; omega)]
  simp

theorem feed_burst_ne (at' pat n : Nat) (h : at' < n) (hp : pat.testBit 0 = true) : feed 0#32 (burst at' pat n) ≠ 0#32 := by
  unfold burst
  refine feed_burst _ _ _ (by simp; omega) fun hw => ?_
  have := word_get ((List.range (min 32 (n - at'))).map fun i => pat.testBit i) 0 (by omega)
  rw [hw, List.getD_eq_getElem?_getD, List.getElem?_map, List.getElem?_range (by omega)] at this
  simp at this
  rw [Nat.testBit_zero] at hp
  simp at hp
  omega

/-- TWO TEXTS THAT ARE APART WITHIN 32 BITS HAVE UNLIKE SUMS -/
theorem crc_apart (at' pat : Nat) (l : List UInt8) (h : at' < 8 * l.length) (hp : pat.testBit 0 = true) : crc (turnN at' pat 32 l) ≠ crc l := by
  rw [crc_feed, crc_feed, turnN_burst at' pat l (by omega)]
  intro e
  have e' := BitVec.not_inj.1 e
  have := feed_xor (bitsOf l) (burst at' pat (8 * l.length)) (BitVec.allOnes 32) 0#32 (by rw [burst_length _ _ _ (by omega), bitsOf_length])
  rw [BitVec.xor_zero] at this
  rw [this] at e'
  have h0 : feed 0#32 (burst at' pat (8 * l.length)) = 0#32 := by
    have h1 := congrArg (fun x => x ^^^ feed (BitVec.allOnes 32) (bitsOf l)) e'
    simp only [BitVec.xor_self] at h1
    rw [BitVec.xor_comm, ← BitVec.xor_assoc, BitVec.xor_self, BitVec.zero_xor] at h1
    exact h1
  exact feed_burst_ne at' pat _ h hp h0

theorem or_one_bit (p : Nat) : (p ||| 1).testBit 0 = true := by simp [Nat.testBit_or]
end Go.Proofs.YtmmcmldcbdaooaaDoor
