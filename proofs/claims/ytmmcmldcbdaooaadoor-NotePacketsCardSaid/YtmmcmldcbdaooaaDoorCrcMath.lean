/- Plain mathematics of the sum of layer 2: a step on 32 bits, four steps by a table, bit lists, and that no short burst leaves the sum as it is. No program is in sight here. -/
namespace Quad

/-- one step of the sum: the polynomial, turned, is taken in where the lowest bit says so -/
def pol : BitVec 32 := 0x82F63B78#32
def st (x : BitVec 32) : BitVec 32 := (x >>> 1) ^^^ (if x.getLsbD 0 then pol else 0#32)
def stn : Nat → BitVec 32 → BitVec 32
  | 0, x => x
  | n + 1, x => stn n (st x)

def quarters : List (BitVec 32) := [0x00000000#32, 0x105ec76f#32, 0x20bd8ede#32, 0x30e349b1#32, 0x417b1dbc#32, 0x5125dad3#32, 0x61c69362#32, 0x7198540d#32,
  0x82f63b78#32, 0x92a8fc17#32, 0xa24bb5a6#32, 0xb21572c9#32, 0xc38d26c4#32, 0xd3d3e1ab#32, 0xe330a81a#32, 0xf36e6f75#32]

theorem st_bit (x : BitVec 32) (i : Nat) (_hi : i < 32) : (st x).getLsbD i = (x.getLsbD (i + 1) ^^ (x.getLsbD 0 && pol.getLsbD i)) := by
  unfold st
  rw [BitVec.getLsbD_xor, BitVec.getLsbD_ushiftRight, Nat.add_comm 1 i]
  cases x.getLsbD 0 <;> simp

theorem st_xor (x y : BitVec 32) : st (x ^^^ y) = st x ^^^ st y := by
  apply BitVec.eq_of_getLsbD_eq
  intro i hi
  rw [BitVec.getLsbD_xor, st_bit _ i hi, st_bit _ i hi, st_bit _ i hi, BitVec.getLsbD_xor, BitVec.getLsbD_xor]
  cases x.getLsbD (i + 1) <;> cases y.getLsbD (i + 1) <;> cases x.getLsbD 0 <;> cases y.getLsbD 0 <;> cases pol.getLsbD i <;> rfl

theorem st_zero : st 0#32 = 0#32 := by decide

theorem stn_xor (n : Nat) : ∀ x y : BitVec 32, stn n (x ^^^ y) = stn n x ^^^ stn n y := by
  induction n with
  | zero => intro x y; rfl
  | succ n ih => intro x y; simp only [stn]; rw [st_xor, ih]

theorem stn_zero (n : Nat) : stn n 0#32 = 0#32 := by
  induction n with
  | zero => rfl
  | succ n ih => simp only [stn, st_zero, ih]

theorem st_ne_zero (x : BitVec 32) (h : st x = 0#32) : x = 0#32 := by
  have h31 : (st x).getLsbD 31 = false := by rw [h]; simp
  rw [st_bit x 31 (by omega)] at h31
  have hp : pol.getLsbD 31 = true := by decide
  have h32 : x.getLsbD (31 + 1) = false := BitVec.getLsbD_of_ge x 32 (by omega)
  rw [h32, hp] at h31
  have h0 : x.getLsbD 0 = false := by revert h31; cases x.getLsbD 0 <;> simp
  apply BitVec.eq_of_getLsbD_eq
  intro i hi
  rw [BitVec.getLsbD_zero]
  cases i with
  | zero => exact h0
  | succ i =>
    have hb : (st x).getLsbD i = false := by rw [h]; simp
    rw [st_bit x i (by omega), h0] at hb
    simpa using hb

theorem stn_ne_zero (n : Nat) : ∀ x : BitVec 32, x ≠ 0#32 → stn n x ≠ 0#32 := by
  induction n with
  | zero => intro x h; exact h
  | succ n ih => intro x h; exact ih _ fun h' => h (st_ne_zero x h')

theorem stn_add (m n : Nat) : ∀ x, stn (m + n) x = stn n (stn m x) := by
  induction m with
  | zero => intro x; rw [Nat.zero_add]; rfl
  | succ m ih => intro x; rw [Nat.succ_add]; simp only [stn]; exact ih _

theorem st_shift (x : BitVec 32) (h : x.getLsbD 0 = false) : st x = x >>> 1 := by
  unfold st; rw [h]; simp

theorem st_shift' (x : BitVec 32) (h : x.getLsbD 0 = true) : st x = (x >>> 1) ^^^ pol := by
  unfold st; rw [h]; simp

/-- the low four bits alone, and the rest alone -/
theorem split4 (x : BitVec 32) : x = ((x >>> 4) <<< 4) ^^^ (x &&& 15#32) := by
  apply BitVec.eq_of_getLsbD_eq
  intro i hi
  rw [BitVec.getLsbD_xor, BitVec.getLsbD_shiftLeft, BitVec.getLsbD_ushiftRight, BitVec.getLsbD_and]
  have h15 : (15#32).getLsbD i = decide (i < 4) := by
    rcases Nat.lt_or_ge i 4 with h | h
    · rcases (show i = 0 ∨ i = 1 ∨ i = 2 ∨ i = 3 by omega) with rfl | rfl | rfl | rfl <;> decide
    · rw [decide_eq_false (by omega)]
      have : ∀ j : Fin 32, 4 ≤ j.val → (15#32).getLsbD j.val = false := by decide
      exact this ⟨i, hi⟩ h
  rw [h15]
  rcases Nat.lt_or_ge i 4 with h | h
  · simp [h]
  · have e : 4 + (i - 4) = i := by omega
    have h' : ¬ i < 4 := by omega
    simp [hi, h', e]

theorem st4_high (y : BitVec 32) : stn 4 ((y >>> 4) <<< 4) = y >>> 4 := by
  have low : ∀ (k : Nat), k < 4 → ((y >>> 4) <<< 4).getLsbD k = false := by
    intro k hk; rw [BitVec.getLsbD_shiftLeft]; simp [hk]
  simp only [stn]
  rw [st_shift (y >>> 4 <<< 4) (low 0 (by omega)), st_shift (y >>> 4 <<< 4 >>> 1) (by rw [BitVec.getLsbD_ushiftRight]; exact low _ (by omega)),
    st_shift (y >>> 4 <<< 4 >>> 1 >>> 1) (by rw [BitVec.getLsbD_ushiftRight, BitVec.getLsbD_ushiftRight]; exact low _ (by omega)),
    st_shift (y >>> 4 <<< 4 >>> 1 >>> 1 >>> 1) (by rw [BitVec.getLsbD_ushiftRight, BitVec.getLsbD_ushiftRight, BitVec.getLsbD_ushiftRight]; exact low _ (by omega))]
  apply BitVec.eq_of_getLsbD_eq
  intro i hi
  simp only [BitVec.getLsbD_ushiftRight, BitVec.getLsbD_shiftLeft]
  rcases Nat.lt_or_ge i 28 with h | h
  · have e : 1 + (1 + (1 + (1 + i))) - 4 = i := by omega
    have e1 : 1 + (1 + (1 + (1 + i))) < 32 := by omega
    have e2 : ¬ 1 + (1 + (1 + (1 + i))) < 4 := by omega
    simp [e, e1, e2]
  · have e1 : ¬ 1 + (1 + (1 + (1 + i))) < 32 := by omega
    have : y.getLsbD (4 + i) = false := BitVec.getLsbD_of_ge y _ (by omega)
    simp [e1, this]

theorem st4_low : ∀ j : Fin 16, stn 4 (BitVec.ofNat 32 j.val) = quarters.getD j.val 0#32 := by decide

theorem stn4 (x : BitVec 32) : stn 4 x = (x >>> 4) ^^^ quarters.getD (x &&& 15#32).toNat 0#32 := by
  have hlt : (x &&& 15#32).toNat < 16 := by
    rw [BitVec.toNat_and]; exact Nat.lt_of_le_of_lt Nat.and_le_right (by decide)
  have h := st4_low ⟨_, hlt⟩
  have e : BitVec.ofNat 32 (x &&& 15#32).toNat = x &&& 15#32 := by simp
  rw [e] at h
  rw [← h]
  conv => lhs; rw [split4 x, stn_xor, st4_high]

/-! ### bits -/
def bit (b : Bool) : BitVec 32 := if b then 1#32 else 0#32
/-- the sum's register behind a list of bits -/
def feed : BitVec 32 → List Bool → BitVec 32
  | c, [] => c
  | c, b :: l => feed (st (c ^^^ bit b)) l

theorem feed_append (l l' : List Bool) : ∀ c, feed c (l ++ l') = feed (feed c l) l' := by
  induction l with
  | nil => intro c; rfl
  | cons b l ih => intro c; simp only [List.cons_append, feed]; exact ih _

theorem bit_xor (a b : Bool) : bit (a ^^ b) = bit a ^^^ bit b := by cases a <;> cases b <;> decide

theorem feed_xor : ∀ (l l' : List Bool) (c c' : BitVec 32), l.length = l'.length →
    feed (c ^^^ c') (List.zipWith (· ^^ ·) l l') = feed c l ^^^ feed c' l'
  | [], [], c, c', _ => rfl
  | [], b :: l', c, c', h => by simp at h
  | a :: l, [], c, c', h => by simp at h
  | a :: l, b :: l', c, c', h => by
    simp only [List.zipWith_cons_cons, feed]
    rw [← feed_xor l l' _ _ (by simpa using h), ← st_xor]
    congr 2
    rw [bit_xor]
    ac_rfl

theorem feed_zeros (n : Nat) : ∀ c, feed c (List.replicate n false) = stn n c := by
  induction n with
  | zero => intro c; rfl
  | succ n ih => intro c; simp only [List.replicate_succ, feed, stn]; rw [show bit false = 0#32 from rfl, BitVec.xor_zero]; exact ih _

/-- a list of bits as a word: the first bit is the lowest -/
def word : List Bool → BitVec 32
  | [] => 0#32
  | b :: l => bit b ^^^ ((word l) <<< 1)

theorem bit_get (b : Bool) (i : Nat) : (bit b).getLsbD i = (decide (i = 0) && b) := by
  cases b
  · simp [bit]
  · simp only [bit, if_true, Bool.and_true]
    cases i with
    | zero => decide
    | succ i =>
      rw [BitVec.getLsbD_one]
      simp

theorem word_get : ∀ (l : List Bool) (i : Nat), i < 32 → (word l).getLsbD i = l.getD i false
  | [], i, _ => by simp [word]
  | b :: l, i, hi => by
    simp only [word]
    rw [BitVec.getLsbD_xor, BitVec.getLsbD_shiftLeft, bit_get]
    cases i with
    | zero => simp
    | succ i =>
      have h0 : ¬ (i + 1 < 1) := by omega
      simp only [hi, decide_true, h0, decide_false, Bool.not_false, Bool.true_and, Nat.add_sub_cancel, word_get l i (by omega)]
      simp

theorem word_ge (l : List Bool) (k : Nat) (hk : l.length ≤ k) : (word l).getLsbD k = false := by
  rcases Nat.lt_or_ge k 32 with h | h
  · rw [word_get l k h]; simp [List.getD, List.getElem?_eq_none hk]
  · exact BitVec.getLsbD_of_ge _ _ h

theorem feed_word : ∀ (l : List Bool) (c : BitVec 32), l.length ≤ 32 → feed c l = stn l.length (c ^^^ word l)
  | [], c, _ => by simp [feed, stn, word]
  | b :: l, c, h => by
    simp only [feed, List.length_cons, stn]
    simp only [List.length_cons] at h
    rw [feed_word l _ (by omega)]
    congr 1
    have e : c ^^^ word (b :: l) = (c ^^^ bit b) ^^^ ((word l) <<< 1) := by simp only [word]; ac_rfl
    rw [e, st_xor (c ^^^ bit b)]
    congr 1
    rw [st_shift _ (by simp [BitVec.getLsbD_shiftLeft])]
    apply BitVec.eq_of_getLsbD_eq
    intro i hi
    simp only [BitVec.getLsbD_ushiftRight, BitVec.getLsbD_shiftLeft]
    have h1 : ¬ (1 + i < 1) := by omega
    have h2 : 1 + i - 1 = i := by omega
    rcases Nat.lt_or_ge i 31 with h3 | h3
    · have h4 : 1 + i < 32 := by omega
      simp [h4, h2]
    · have h4 : ¬ (1 + i < 32) := by omega
      rw [word_ge l i (by omega)]
      simp [h4]

/-- a burst leaves something: noughts, then a list of at most 32 bits that isn't all noughts, then noughts -/
theorem feed_burst (a : Nat) (l : List Bool) (z : Nat) (hl : l.length ≤ 32) (hw : word l ≠ 0#32) :
    feed 0#32 (List.replicate a false ++ l ++ List.replicate z false) ≠ 0#32 := by
  rw [feed_append, feed_append, feed_zeros, feed_zeros, stn_zero, feed_word l _ hl, BitVec.zero_xor]
  exact stn_ne_zero _ _ (stn_ne_zero _ _ hw)

/-! ### bytes -/
def bits8 (b : UInt8) : List Bool := (List.range 8).map fun i => b.toBitVec.getLsbD i
def bitsOf (l : List UInt8) : List Bool := l.flatMap bits8

theorem bits8_length (b : UInt8) : (bits8 b).length = 8 := by simp [bits8]
theorem bitsOf_length (l : List UInt8) : (bitsOf l).length = 8 * l.length := by
  induction l with
  | nil => rfl
  | cons b l ih => simp only [bitsOf, List.flatMap_cons, List.length_append, bits8_length, List.length_cons] at *; omega
theorem bitsOf_append (l l' : List UInt8) : bitsOf (l ++ l') = bitsOf l ++ bitsOf l' := by simp [bitsOf]
theorem bitsOf_cons (b : UInt8) (l : List UInt8) : bitsOf (b :: l) = bits8 b ++ bitsOf l := by simp [bitsOf]

/-- the register behind bytes, four bits at a time by the table, as the code has it -/
def byteStep (c : BitVec 32) (b : UInt8) : BitVec 32 := stn 4 (stn 4 (c ^^^ b.toBitVec.setWidth 32))
def run (c : BitVec 32) (l : List UInt8) : BitVec 32 := l.foldl byteStep c
/-- THE SUM -/
def crc (l : List UInt8) : BitVec 32 := ~~~ (run (BitVec.allOnes 32) l)

theorem word_bits8 (b : UInt8) : word (bits8 b) = b.toBitVec.setWidth 32 := by
  apply BitVec.eq_of_getLsbD_eq
  intro i hi
  rw [word_get _ i hi, BitVec.getLsbD_setWidth]
  simp only [bits8, hi, decide_true, Bool.true_and]
  rcases Nat.lt_or_ge i 8 with h | h
  · simp [List.getD, h]
  · rw [BitVec.getLsbD_of_ge _ _ h]
    simp [List.getD, List.getElem?_eq_none, h]

theorem byteStep_feed (c : BitVec 32) (b : UInt8) : byteStep c b = feed c (bits8 b) := by
  rw [feed_word _ _ (by rw [bits8_length]; omega), bits8_length, word_bits8]
  unfold byteStep
  rw [← stn_add]

theorem run_feed (l : List UInt8) : ∀ c, run c l = feed c (bitsOf l) := by
  induction l with
  | nil => intro c; rfl
  | cons b l ih =>
    intro c
    rw [bitsOf_cons, feed_append, ← byteStep_feed]
    exact ih _

theorem crc_feed (l : List UInt8) : crc l = ~~~ (feed (BitVec.allOnes 32) (bitsOf l)) := by unfold crc; rw [run_feed]

theorem run_append (c : BitVec 32) (l l' : List UInt8) : run c (l ++ l') = run (run c l) l' := by simp [run]

end Quad
