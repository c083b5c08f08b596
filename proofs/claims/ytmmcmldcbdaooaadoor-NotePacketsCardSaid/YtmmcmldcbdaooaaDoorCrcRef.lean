/- Plain mathematics: the reference's division, bit by bit, leaves the sum. -/
import Derived.Test.YtmmcmldcbdaooaaDoorCrcMath
namespace Quad

def powers : List Nat := [0, 6, 8, 9, 10, 11, 13, 14, 18, 19, 20, 22, 23, 25, 26, 27, 28]
def flipAt (l : List Bool) (q : Nat) : List Bool := l.set q (!l.getD q false)
def flips (i : Nat) (ks : List Nat) (l : List Bool) : List Bool := ks.foldl (fun l k => flipAt l (i + 32 - k)) l
def divs : Nat → List Bool → List Bool
  | 0, l => l
  | i + 1, l => if (divs i l).getD i false then flips i powers (divs i l) else divs i l
def turned (k : Nat) (l : List Bool) : List Bool := (List.range k).foldl flipAt l
def startBits (p : List UInt8) : List Bool := bitsOf p ++ List.replicate 32 false
def valN : List Bool → Nat
  | [] => 0
  | b :: l => 2 * valN l + if b then 1 else 0

theorem flipAt_length (l : List Bool) (q : Nat) : (flipAt l q).length = l.length := by simp [flipAt]
theorem flips_length (i : Nat) : ∀ (ks : List Nat) (l : List Bool), (flips i ks l).length = l.length
  | [], _ => rfl
  | k :: ks, l => by
    simp only [flips, List.foldl_cons]
    exact (flips_length i ks _).trans (flipAt_length _ _)
theorem divs_length : ∀ (i : Nat) (l : List Bool), (divs i l).length = l.length
  | 0, _ => rfl
  | i + 1, l => by
    simp only [divs]
    split
    · rw [flips_length, divs_length i]
    · exact divs_length i l
theorem turned_length : ∀ (k : Nat) (l : List Bool), (turned k l).length = l.length
  | 0, _ => rfl
  | k + 1, l => by
    unfold turned
    rw [List.range_succ, List.foldl_append]
    exact (flipAt_length _ _).trans (turned_length k l)
theorem turned_succ (k : Nat) (l : List Bool) : turned (k + 1) l = flipAt (turned k l) k := by
  unfold turned; rw [List.range_succ, List.foldl_append]; rfl

theorem flipAt_get (l : List Bool) (q p : Nat) (hq : q < l.length) : (flipAt l q).getD p false = (l.getD p false ^^ decide (p = q)) := by
  unfold flipAt
  rw [List.getD_eq_getElem?_getD, List.getElem?_set]
  by_cases h : q = p
  · subst h; simp [hq]
  · rw [if_neg h]
    have : ¬ p = q := fun e => h e.symm
    simp [this]

theorem flips_get (i : Nat) : ∀ (ks : List Nat) (l : List Bool) (q : Nat), (∀ k ∈ ks, k ≤ 32) → ks.Nodup → i + 32 < l.length →
    (flips i ks l).getD q false = (l.getD q false ^^ decide (q ≤ i + 32 ∧ i + 32 - q ∈ ks))
  | [], l, q, _, _, _ => by simp [flips]
  | k :: ks, l, q, hk, hn, hl => by
    have hk0 := hk k (by simp)
    have hnd := List.nodup_cons.1 hn
    have ih := flips_get i ks (flipAt l (i + 32 - k)) q (fun x hx => hk x (by simp [hx])) hnd.2 (by rw [flipAt_length]; exact hl)
    have e : flips i (k :: ks) l = flips i ks (flipAt l (i + 32 - k)) := rfl
    rw [e, ih, flipAt_get _ _ _ (by omega)]
    by_cases h1 : q = i + 32 - k
    · have h2 : i + 32 - q = k := by omega
      have h3 : ¬ (q ≤ i + 32 ∧ i + 32 - q ∈ ks) := by rw [h2]; exact fun h => hnd.1 h.2
      have h4 : q ≤ i + 32 ∧ i + 32 - q ∈ k :: ks := ⟨by omega, by rw [h2]; simp⟩
      rw [decide_eq_true h1, decide_eq_false h3, decide_eq_true h4]
      cases l.getD q false <;> rfl
    · have h5 : (q ≤ i + 32 ∧ i + 32 - q ∈ k :: ks) ↔ (q ≤ i + 32 ∧ i + 32 - q ∈ ks) := by
        constructor
        · rintro ⟨a, b⟩
          rcases List.mem_cons.1 b with b | b
          · omega
          · exact ⟨a, b⟩
        · rintro ⟨a, b⟩; exact ⟨a, by simp [b]⟩
      have h6 : decide (q ≤ i + 32 ∧ i + 32 - q ∈ k :: ks) = decide (q ≤ i + 32 ∧ i + 32 - q ∈ ks) := decide_eq_decide.2 h5
      rw [decide_eq_false h1, h6]
      simp

theorem powers_pol : ∀ j : Fin 32, decide (31 - j.val ∈ powers) = pol.getLsbD j.val := by decide
theorem powers_small : ∀ k ∈ powers, k ≤ 32 := by decide
theorem powers_nodup : powers.Nodup := by decide

theorem flips_pol (i : Nat) (l : List Bool) (q : Nat) (hl : i + 32 < l.length) (hq : i + 1 ≤ q) :
    (flips i powers l).getD q false = (l.getD q false ^^ (decide (q < i + 33) && pol.getLsbD (q - i - 1))) := by
  rw [flips_get i powers l q powers_small powers_nodup hl]
  by_cases h : q < i + 33
  · have := powers_pol ⟨q - i - 1, by omega⟩
    simp only at this
    rw [← this, decide_eq_true h, Bool.true_and]
    congr 1
    rw [decide_eq_decide]
    rw [show i + 32 - q = 31 - (q - i - 1) from by omega]
    exact ⟨fun h => h.2, fun h' => ⟨by omega, h'⟩⟩
  · rw [decide_eq_false h, decide_eq_false (fun h' => h (by omega)), Bool.false_and]

theorem turned_get (l : List Bool) : ∀ (k q : Nat), k ≤ l.length → (turned k l).getD q false = (l.getD q false ^^ decide (q < k))
  | 0, q, _ => by simp [turned]
  | k + 1, q, h => by
    rw [turned_succ, flipAt_get _ _ _ (by rw [turned_length]; omega), turned_get l k q (by omega)]
    by_cases h1 : q = k
    · subst h1; simp
    · have : (q < k + 1) ↔ (q < k) := by omega
      simp [h1, this]

/-- the register behind the first i bits -/
def regAt (p : List UInt8) (i : Nat) : BitVec 32 := feed (BitVec.allOnes 32) ((bitsOf p).take i)

theorem regAt_succ (p : List UInt8) (i : Nat) (hi : i < 8 * p.length) : regAt p (i + 1) = st (regAt p i ^^^ bit ((startBits p).getD i false)) := by
  unfold regAt
  have hi' : i < (bitsOf p).length := by rw [bitsOf_length]; exact hi
  rw [List.take_succ_eq_append_getElem hi', feed_append]
  simp only [feed]
  congr 3
  unfold startBits
  rw [List.getD_eq_getElem?_getD, List.getElem?_append_left hi', List.getElem?_eq_getElem hi', Option.getD_some]

theorem startBits_length (p : List UInt8) : (startBits p).length = 8 * p.length + 32 := by simp [startBits, bitsOf_length]

theorem divs_inv (p : List UInt8) : ∀ (i : Nat), i ≤ 8 * p.length → ∀ q, i ≤ q → (divs i (turned 32 (startBits p))).getD q false = ((startBits p).getD q false ^^ (regAt p i).getLsbD (q - i))
  | 0, _, q, _ => by
    simp only [divs]
    rw [turned_get _ _ _ (by rw [startBits_length]; omega)]
    congr 1
    show _ = (BitVec.allOnes 32).getLsbD (q - 0)
    rw [BitVec.getLsbD_allOnes, Nat.sub_zero]
  | i + 1, hi, q, hq => by
    have ih := divs_inv p i (by omega)
    have hl : (divs i (turned 32 (startBits p))).length = 8 * p.length + 32 := by rw [divs_length, turned_length, startBits_length]
    have hb := ih i (Nat.le_refl _)
    have hq' := ih q (by omega)
    rw [Nat.sub_self] at hb
    have hst := st_bit (regAt p i ^^^ bit ((startBits p).getD i false))
    rw [regAt_succ p i (by omega)]
    have e1 : (regAt p i ^^^ bit ((startBits p).getD i false)).getLsbD 0 = ((startBits p).getD i false ^^ (regAt p i).getLsbD 0) := by
      rw [BitVec.getLsbD_xor, bit_get]; simp [Bool.xor_comm]
    by_cases h33 : q < i + 33
    · rw [hst (q - (i + 1)) (by omega), e1, ← hb]
      have e2 : (regAt p i ^^^ bit ((startBits p).getD i false)).getLsbD (q - (i + 1) + 1) = (regAt p i).getLsbD (q - i) := by
        rw [BitVec.getLsbD_xor, bit_get, show q - (i + 1) + 1 = q - i from by omega]
        have : ¬ (q - i = 0) := by omega
        simp [this]
      rw [e2, ← Bool.xor_assoc, ← hq']
      simp only [divs]
      split
      · rename_i hd
        rw [flips_pol i _ q (by omega) hq, hd, decide_eq_true h33, Bool.true_and, Bool.true_and, Nat.sub_sub]
      · rename_i hd
        rw [Bool.not_eq_true] at hd
        rw [hd]; simp
    · rw [BitVec.getLsbD_of_ge _ (q - (i + 1)) (by omega), Bool.xor_false]
      rw [BitVec.getLsbD_of_ge _ (q - i) (by omega), Bool.xor_false] at hq'
      rw [← hq']
      simp only [divs]
      split
      · rw [flips_pol i _ q (by omega) hq, decide_eq_false h33]; simp
      · rfl

theorem valN_lt (l : List Bool) : valN l < 2 ^ l.length := by
  induction l with
  | nil => simp [valN]
  | cons b l ih => simp only [valN, List.length_cons, Nat.pow_succ]; split <;> omega

theorem valN_bit (l : List Bool) : ∀ i, (valN l).testBit i = l.getD i false := by
  induction l with
  | nil => intro i; simp [valN]
  | cons b l ih =>
    intro i
    simp only [valN]
    cases i with
    | zero =>
      rw [Nat.testBit_zero]
      cases b <;> simp <;> omega
    | succ i =>
      rw [Nat.testBit_succ]
      have : (2 * valN l + if b = true then 1 else 0) / 2 = valN l := by split <;> omega
      rw [this, ih]
      simp

/-- the last 32, turned -/
def lastOf (l : List Bool) : List Bool := (l.drop (l.length - 32)).map (!·)

theorem ref_crc (p : List UInt8) : valN (lastOf (divs (8 * p.length) (turned 32 (startBits p)))) = (crc p).toNat := by
  have hl : (divs (8 * p.length) (turned 32 (startBits p))).length = 8 * p.length + 32 := by rw [divs_length, turned_length, startBits_length]
  have hll : (lastOf (divs (8 * p.length) (turned 32 (startBits p)))).length = 32 := by unfold lastOf; rw [List.length_map, List.length_drop, hl]; omega
  apply Nat.eq_of_testBit_eq
  intro i
  rw [valN_bit]
  rcases Nat.lt_or_ge i 32 with hi | hi
  · rw [crc_feed]
    rw [BitVec.testBit_toNat, BitVec.getLsbD_not]
    have := divs_inv p (8 * p.length) (Nat.le_refl _) (8 * p.length + i) (by omega)
    rw [Nat.add_sub_cancel_left] at this
    have e0 : (startBits p).getD (8 * p.length + i) false = false := by
      unfold startBits
      rw [List.getD_eq_getElem?_getD, List.getElem?_append_right (by rw [bitsOf_length]; omega), List.getElem?_replicate]
      split <;> rfl
    have e1 : regAt p (8 * p.length) = feed (BitVec.allOnes 32) (bitsOf p) := by
      unfold regAt; rw [List.take_of_length_le (by rw [bitsOf_length]; omega)]
    rw [e0, Bool.false_xor, e1] at this
    rw [← this]
    unfold lastOf
    rw [hl, Nat.add_sub_cancel, List.getD_eq_getElem?_getD, List.getElem?_map, List.getElem?_drop, List.getElem?_eq_getElem (by omega), List.getD_eq_getElem?_getD, List.getElem?_eq_getElem (by omega)]
    simp [hi]
  · rw [List.getD_eq_getElem?_getD, List.getElem?_eq_none (by omega), Nat.testBit_lt_two_pow (Nat.lt_of_lt_of_le (crc p).isLt (Nat.pow_le_pow_right (by omega) hi))]
    rfl

theorem bits8_get (c : UInt8) (j : Nat) (hj : j < 8) : (bits8 c).getD j false = c.toNat.testBit j := by
  unfold bits8
  rw [List.getD_eq_getElem?_getD, List.getElem?_map, List.getElem?_range hj]
  rfl

theorem bitsOf_get : ∀ (l : List UInt8) (k : Nat), k < 8 * l.length → (bitsOf l).getD k false = (l.getD (k / 8) 0).toNat.testBit (k % 8)
  | [], k, h => by simp at h
  | c :: l, k, h => by
    rw [bitsOf_cons, List.getD_eq_getElem?_getD]
    rcases Nat.lt_or_ge k 8 with h8 | h8
    · rw [List.getElem?_append_left (by rw [bits8_length]; exact h8), ← List.getD_eq_getElem?_getD, bits8_get c k h8, Nat.div_eq_of_lt h8, Nat.mod_eq_of_lt h8]
      rfl
    · rw [List.getElem?_append_right (by rw [bits8_length]; exact h8), bits8_length, ← List.getD_eq_getElem?_getD, bitsOf_get l (k - 8) (by simp at h; omega)]
      rw [show k / 8 = (k - 8) / 8 + 1 from by omega, show k % 8 = (k - 8) % 8 from by omega]
      rfl

theorem bit_num (x j : Nat) : ((((x : Int) / 2 ^ j).tmod 2) == 1) = x.testBit j := by
  have e : ((x : Int) / 2 ^ j) = ((x / 2 ^ j : Nat) : Int) := by simp
  rw [e, Nat.testBit_eq_decide_div_mod_eq]
  generalize x / 2 ^ j = y
  rw [Int.tmod_eq_emod_of_nonneg (by omega)]
  rw [Bool.eq_iff_iff, beq_iff_eq, decide_eq_true_eq]
  omega

/-- the bits that have been filled, and noughts -/
def filled (l : List UInt8) (k : Nat) : List Bool := (bitsOf l).take k ++ List.replicate (8 * l.length + 32 - k) false

theorem filled_length (l : List UInt8) (k : Nat) (hk : k ≤ 8 * l.length) : (filled l k).length = 8 * l.length + 32 := by
  unfold filled; rw [List.length_append, List.length_take, List.length_replicate, bitsOf_length]; omega

theorem filled_succ (l : List UInt8) (k : Nat) (hk : k < 8 * l.length) : (filled l k).set k ((bitsOf l).getD k false) = filled l (k + 1) := by
  have hk' : k < (bitsOf l).length := by rw [bitsOf_length]; exact hk
  unfold filled
  rw [List.set_append_right _ _ (by rw [List.length_take]; omega), List.length_take, Nat.min_eq_left (by omega), Nat.sub_self, List.take_succ_eq_append_getElem hk', List.append_assoc]
  congr 1
  rw [show 8 * l.length + 32 - k = (8 * l.length + 32 - (k + 1)) + 1 from by omega, List.replicate_succ, List.set_cons_zero, List.getD_eq_getElem?_getD, List.getElem?_eq_getElem hk']
  rfl

theorem filled_all (l : List UInt8) : filled l (8 * l.length) = startBits l := by
  unfold filled startBits
  rw [List.take_of_length_le (by rw [bitsOf_length]; omega), Nat.add_sub_cancel_left]

theorem flips_snoc (i j : Nat) (l : List Bool) (hj : j < powers.length) : flips i (powers.take (j + 1)) l = flipAt (flips i (powers.take j) l) (i + 32 - powers.getD j 0) := by
  unfold flips
  rw [List.take_succ_eq_append_getElem hj, List.foldl_append, List.getD_eq_getElem?_getD, List.getElem?_eq_getElem hj]
  rfl

theorem valN_step (l : List Bool) (m : Nat) (hm : m < l.length) : valN (l.drop (l.length - (m + 1))) = 2 * valN (l.drop (l.length - m)) + if l.getD (l.length - (m + 1)) false then 1 else 0 := by
  have h : l.length - (m + 1) < l.length := by omega
  rw [List.drop_eq_getElem_cons h]
  simp only [valN]
  rw [show l.length - (m + 1) + 1 = l.length - m from by omega, List.getD_eq_getElem?_getD, List.getElem?_eq_getElem h, Option.getD_some]

end Quad
