/- Plain: the sum (crc), bit by bit and byte by byte; bursts; the document's division. -/
/- Plain mathematics of the sum of layer 2: a step on 32 bits, four steps by a table, bit lists, and that no short burst leaves the sum as it is. No program is in sight here. -/
namespace Quad

/-- one step of the sum: the polynomial, turned, is taken in where the lowest bit says so -/
def pol : BitVec 32 := 0x82F63B78#32
def st (x : BitVec 32) : BitVec 32 := (x >>> 1) ^^^ (if x.getLsbD 0 then pol else 0#32)
def stn : Nat → BitVec 32 → BitVec 32
  | 0, x => x
  | n + 1, x => stn n (st x)

def quarters : List (BitVec 32) := [0x00000000#32, 0x105ec76f#32, 0x20bd8ede#32, 0x30e349b1#32, 0x417b1dbc#32, 0x5125dad3#32, 0x61c69362#32, 0x7198540d#32,
  0x82f63b78#32, 0x92a8fc17#32, 0xa24bb5a6#32, 0xb21572c9#32, 0xc38d26c4#32, 0xd3d3e1ab#32, 0xe330a81a#32, 0xf36e6f75#32]

theorem st_bit (x : BitVec 32) (i : Nat) (_hi : i < 32) : (st x).getLsbD i = (x.getLsbD (i + 1) ^^ (x.getLsbD 0 && pol.getLsbD i)) := by
  unfold st
  rw [BitVec.getLsbD_xor, BitVec.getLsbD_ushiftRight, Nat.add_comm 1 i]
  cases x.getLsbD 0 <;> simp

theorem st_xor (x y : BitVec 32) : st (x ^^^ y) = st x ^^^ st y := by
  apply BitVec.eq_of_getLsbD_eq
  intro i hi
  rw [BitVec.getLsbD_xor, st_bit _ i hi, st_bit _ i hi, st_bit _ i hi, BitVec.getLsbD_xor, BitVec.getLsbD_xor]
  cases x.getLsbD (i + 1) <;> cases y.getLsbD (i + 1) <;> cases x.getLsbD 0 <;> cases y.getLsbD 0 <;> cases pol.getLsbD i <;> rfl

theorem st_zero : st 0#32 = 0#32 := by decide

theorem stn_xor (n : Nat) : ∀ x y : BitVec 32, stn n (x ^^^ y) = stn n x ^^^ stn n y := by
  induction n with
  | zero => intro x y; rfl
  | succ n ih => intro x y; simp only [stn]; rw [st_xor, ih]

theorem stn_zero (n : Nat) : stn n 0#32 = 0#32 := by
  induction n with
  | zero => rfl
  | succ n ih => simp only [stn, st_zero, ih]

theorem st_ne_zero (x : BitVec 32) (h : st x = 0#32) : x = 0#32 := by
  have h31 : (st x).getLsbD 31 = false := by rw [h]; simp
  rw [st_bit x 31 (by omega)] at h31
  have hp : pol.getLsbD 31 = true := by decide
  have h32 : x.getLsbD (31 + 1) = false := BitVec.getLsbD_of_ge x 32 (by omega)
  rw [h32, hp] at h31
  have h0 : x.getLsbD 0 = false := by revert h31; cases x.getLsbD 0 <;> simp
  apply BitVec.eq_of_getLsbD_eq
  intro i hi
  rw [BitVec.getLsbD_zero]
  cases i with
  | zero => exact h0
  | succ i =>
    have hb : (st x).getLsbD i = false := by rw [h]; simp
    rw [st_bit x i (by omega), h0] at hb
    simpa using hb

theorem stn_ne_zero (n : Nat) : ∀ x : BitVec 32, x ≠ 0#32 → stn n x ≠ 0#32 := by
  induction n with
  | zero => intro x h; exact h
  | succ n ih => intro x h; exact ih _ fun h' => h (st_ne_zero x h')

theorem stn_add (m n : Nat) : ∀ x, stn (m + n) x = stn n (stn m x) := by
  induction m with
  | zero => intro x; rw [Nat.zero_add]; rfl
  | succ m ih => intro x; rw [Nat.succ_add]; simp only [stn]; exact ih _

theorem st_shift (x : BitVec 32) (h : x.getLsbD 0 = false) : st x = x >>> 1 := by
  unfold st; rw [h]; simp

theorem st_shift' (x : BitVec 32) (h : x.getLsbD 0 = true) : st x = (x >>> 1) ^^^ pol := by
  unfold st; rw [h]; simp

/-- the low four bits alone, and the rest alone -/
theorem split4 (x : BitVec 32) : x = ((x >>> 4) <<< 4) ^^^ (x &&& 15#32) := by
  apply BitVec.eq_of_getLsbD_eq
  intro i hi
  rw [BitVec.getLsbD_xor, BitVec.getLsbD_shiftLeft, BitVec.getLsbD_ushiftRight, BitVec.getLsbD_and]
  have h15 : (15#32).getLsbD i = decide (i < 4) := by
    rcases Nat.lt_or_ge i 4 with h | h
    · rcases (show i = 0 ∨ i = 1 ∨ i = 2 ∨ i = 3 by omega) with rfl | rfl | rfl | rfl <;> decide
    · rw [decide_eq_false (by omega)]
      have : ∀ j : Fin 32, 4 ≤ j.val → (15#32).getLsbD j.val = false := by decide
      exact this ⟨i, hi⟩ h
  rw [h15]
  rcases Nat.lt_or_ge i 4 with h | h
  · simp [h]
  · have e : 4 + (i - 4) = i := by omega
    have h' : ¬ i < 4 := by omega
    simp [hi, h', e]

theorem st4_high (y : BitVec 32) : stn 4 ((y >>> 4) <<< 4) = y >>> 4 := by
  have low : ∀ (k : Nat), k < 4 → ((y >>> 4) <<< 4).getLsbD k = false := by
    intro k hk; rw [BitVec.getLsbD_shiftLeft]; simp [hk]
  simp only [stn]
  rw [st_shift (y >>> 4 <<< 4) (low 0 (by omega)), st_shift (y >>> 4 <<< 4 >>> 1) (by rw [BitVec.getLsbD_ushiftRight]; exact low _ (by omega)),
    st_shift (y >>> 4 <<< 4 >>> 1 >>> 1) (by rw [BitVec.getLsbD_ushiftRight, BitVec.getLsbD_ushiftRight]; exact low _ (by omega)),
    st_shift (y >>> 4 <<< 4 >>> 1 >>> 1 >>> 1) (by rw [BitVec.getLsbD_ushiftRight, BitVec.getLsbD_ushiftRight, BitVec.getLsbD_ushiftRight]; exact low _ (by omega))]
  apply BitVec.eq_of_getLsbD_eq
  intro i hi
  simp only [BitVec.getLsbD_ushiftRight, BitVec.getLsbD_shiftLeft]
  rcases Nat.lt_or_ge i 28 with h | h
  · have e : 1 + (1 + (1 + (1 + i))) - 4 = i := by omega
    have e1 : 1 + (1 + (1 + (1 + i))) < 32 := by omega
    have e2 : ¬ 1 + (1 + (1 + (1 + i))) < 4 := by omega
    simp [e, e1, e2]
  · have e1 : ¬ 1 + (1 + (1 + (1 + i))) < 32 := by omega
    have : y.getLsbD (4 + i) = false := BitVec.getLsbD_of_ge y _ (by omega)
    simp [e1, this]

theorem st4_low : ∀ j : Fin 16, stn 4 (BitVec.ofNat 32 j.val) = quarters.getD j.val 0#32 := by decide

theorem stn4 (x : BitVec 32) : stn 4 x = (x >>> 4) ^^^ quarters.getD (x &&& 15#32).toNat 0#32 := by
  have hlt : (x &&& 15#32).toNat < 16 := by
    rw [BitVec.toNat_and]; exact Nat.lt_of_le_of_lt Nat.and_le_right (by decide)
  have h := st4_low ⟨_, hlt⟩
  have e : BitVec.ofNat 32 (x &&& 15#32).toNat = x &&& 15#32 := by simp
  rw [e] at h
  rw [← h]
  conv => lhs; rw [split4 x, stn_xor, st4_high]

/-! ### bits -/
def bit (b : Bool) : BitVec 32 := if b then 1#32 else 0#32
/-- the sum's register behind a list of bits -/
def feed : BitVec 32 → List Bool → BitVec 32
  | c, [] => c
  | c, b :: l => feed (st (c ^^^ bit b)) l

theorem feed_append (l l' : List Bool) : ∀ c, feed c (l ++ l') = feed (feed c l) l' := by
  induction l with
  | nil => intro c; rfl
  | cons b l ih => intro c; simp only [List.cons_append, feed]; exact ih _

theorem bit_xor (a b : Bool) : bit (a ^^ b) = bit a ^^^ bit b := by cases a <;> cases b <;> decide

theorem feed_xor : ∀ (l l' : List Bool) (c c' : BitVec 32), l.length = l'.length →
    feed (c ^^^ c') (List.zipWith (· ^^ ·) l l') = feed c l ^^^ feed c' l'
  | [], [], c, c', _ => rfl
  | [], b :: l', c, c', h => by simp at h
  | a :: l, [], c, c', h => by simp at h
  | a :: l, b :: l', c, c', h => by
    simp only [List.zipWith_cons_cons, feed]
    rw [← feed_xor l l' _ _ (by simpa using h), ← st_xor]
    congr 2
    rw [bit_xor]
    ac_rfl

theorem feed_zeros (n : Nat) : ∀ c, feed c (List.replicate n false) = stn n c := by
  induction n with
  | zero => intro c; rfl
  | succ n ih => intro c; simp only [List.replicate_succ, feed, stn]; rw [show bit false = 0#32 from rfl, BitVec.xor_zero]; exact ih _

/-- a list of bits as a word: the first bit is the lowest -/
def word : List Bool → BitVec 32
  | [] => 0#32
  | b :: l => bit b ^^^ ((word l) <<< 1)

theorem bit_get (b : Bool) (i : Nat) : (bit b).getLsbD i = (decide (i = 0) && b) := by
  cases b
  · simp [bit]
  · simp only [bit, if_true, Bool.and_true]
    cases i with
    | zero => decide
    | succ i =>
      rw [BitVec.getLsbD_one]
      simp

theorem word_get : ∀ (l : List Bool) (i : Nat), i < 32 → (word l).getLsbD i = l.getD i false
  | [], i, _ => by simp [word]
  | b :: l, i, hi => by
    simp only [word]
    rw [BitVec.getLsbD_xor, BitVec.getLsbD_shiftLeft, bit_get]
    cases i with
    | zero => simp
    | succ i =>
      have h0 : ¬ (i + 1 < 1) := by omega
      simp only [hi, decide_true, h0, decide_false, Bool.not_false, Bool.true_and, Nat.add_sub_cancel, word_get l i (by omega)]
      simp

theorem word_ge (l : List Bool) (k : Nat) (hk : l.length ≤ k) : (word l).getLsbD k = false := by
  rcases Nat.lt_or_ge k 32 with h | h
  · rw [word_get l k h]; simp [List.getD, List.getElem?_eq_none hk]
  · exact BitVec.getLsbD_of_ge _ _ h

theorem feed_word : ∀ (l : List Bool) (c : BitVec 32), l.length ≤ 32 → feed c l = stn l.length (c ^^^ word l)
  | [], c, _ => by simp [feed, stn, word]
  | b :: l, c, h => by
    simp only [feed, List.length_cons, stn]
    simp only [List.length_cons] at h
    rw [feed_word l _ (by omega)]
    congr 1
    have e : c ^^^ word (b :: l) = (c ^^^ bit b) ^^^ ((word l) <<< 1) := by simp only [word]; ac_rfl
    rw [e, st_xor (c ^^^ bit b)]
    congr 1
    rw [st_shift _ (by simp)]
    apply BitVec.eq_of_getLsbD_eq
    intro i hi
    simp only [BitVec.getLsbD_ushiftRight, BitVec.getLsbD_shiftLeft]
    have h1 : ¬ (1 + i < 1) := by omega
    have h2 : 1 + i - 1 = i := by omega
    rcases Nat.lt_or_ge i 31 with h3 | h3
    · have h4 : 1 + i < 32 := by omega
      simp [h4, h2]
    · have h4 : ¬ (1 + i < 32) := by omega
      rw [word_ge l i (by omega)]
      simp [h4]

/-- a burst leaves something: noughts, then a list of at most 32 bits that isn't all noughts, then noughts -/
theorem feed_burst (a : Nat) (l : List Bool) (z : Nat) (hl : l.length ≤ 32) (hw : word l ≠ 0#32) :
    feed 0#32 (List.replicate a false ++ l ++ List.replicate z false) ≠ 0#32 := by
  rw [feed_append, feed_append, feed_zeros, feed_zeros, stn_zero, feed_word l _ hl, BitVec.zero_xor]
  exact stn_ne_zero _ _ (stn_ne_zero _ _ hw)

/-! ### bytes -/
def bits8 (b : UInt8) : List Bool := (List.range 8).map fun i => b.toBitVec.getLsbD i
def bitsOf (l : List UInt8) : List Bool := l.flatMap bits8

theorem bits8_length (b : UInt8) : (bits8 b).length = 8 := by simp [bits8]
theorem bitsOf_length (l : List UInt8) : (bitsOf l).length = 8 * l.length := by
  induction l with
  | nil => rfl
  | cons b l ih => simp only [bitsOf, List.flatMap_cons, List.length_append, bits8_length, List.length_cons] at *; omega
theorem bitsOf_append (l l' : List UInt8) : bitsOf (l ++ l') = bitsOf l ++ bitsOf l' := by simp [bitsOf]
theorem bitsOf_cons (b : UInt8) (l : List UInt8) : bitsOf (b :: l) = bits8 b ++ bitsOf l := by simp [bitsOf]

/-- the register behind bytes, four bits at a time by the table, as the code has it -/
def byteStep (c : BitVec 32) (b : UInt8) : BitVec 32 := stn 4 (stn 4 (c ^^^ b.toBitVec.setWidth 32))
def run (c : BitVec 32) (l : List UInt8) : BitVec 32 := l.foldl byteStep c
/-- THE SUM -/
def crc (l : List UInt8) : BitVec 32 := ~~~ (run (BitVec.allOnes 32) l)

theorem word_bits8 (b : UInt8) : word (bits8 b) = b.toBitVec.setWidth 32 := by
  apply BitVec.eq_of_getLsbD_eq
  intro i hi
  rw [word_get _ i hi, BitVec.getLsbD_setWidth]
  simp only [bits8, hi, decide_true, Bool.true_and]
  rcases Nat.lt_or_ge i 8 with h | h
  · simp [List.getD, h]
  · rw [BitVec.getLsbD_of_ge _ _ h]
    simp [List.getD, h]

theorem byteStep_feed (c : BitVec 32) (b : UInt8) : byteStep c b = feed c (bits8 b) := by
  rw [feed_word _ _ (by rw [bits8_length]; omega), bits8_length, word_bits8]
  unfold byteStep
  rw [← stn_add]

theorem run_feed (l : List UInt8) : ∀ c, run c l = feed c (bitsOf l) := by
  induction l with
  | nil => intro c; rfl
  | cons b l ih =>
    intro c
    rw [bitsOf_cons, feed_append, ← byteStep_feed]
    exact ih _

theorem crc_feed (l : List UInt8) : crc l = ~~~ (feed (BitVec.allOnes 32) (bitsOf l)) := by unfold crc; rw [run_feed]

theorem run_append (c : BitVec 32) (l l' : List UInt8) : run c (l ++ l') = run (run c l) l' := by simp [run]

end Quad


/- Plain mathematics: the reference's division, bit by bit, leaves the sum. -/
namespace Quad

def powers : List Nat := [0, 6, 8, 9, 10, 11, 13, 14, 18, 19, 20, 22, 23, 25, 26, 27, 28]
def flipAt (l : List Bool) (q : Nat) : List Bool := l.set q (!l.getD q false)
def flips (i : Nat) (ks : List Nat) (l : List Bool) : List Bool := ks.foldl (fun l k => flipAt l (i + 32 - k)) l
def divs : Nat → List Bool → List Bool
  | 0, l => l
  | i + 1, l => if (divs i l).getD i false then flips i powers (divs i l) else divs i l
def turned (k : Nat) (l : List Bool) : List Bool := (List.range k).foldl flipAt l
def startBits (p : List UInt8) : List Bool := bitsOf p ++ List.replicate 32 false
def valN : List Bool → Nat
  | [] => 0
  | b :: l => 2 * valN l + if b then 1 else 0

theorem flipAt_length (l : List Bool) (q : Nat) : (flipAt l q).length = l.length := by simp [flipAt]
theorem flips_length (i : Nat) : ∀ (ks : List Nat) (l : List Bool), (flips i ks l).length = l.length
  | [], _ => rfl
  | k :: ks, l => by
    simp only [flips, List.foldl_cons]
    exact (flips_length i ks _).trans (flipAt_length _ _)
theorem divs_length : ∀ (i : Nat) (l : List Bool), (divs i l).length = l.length
  | 0, _ => rfl
  | i + 1, l => by
    simp only [divs]
    split
    · rw [flips_length, divs_length i]
    · exact divs_length i l
theorem turned_length : ∀ (k : Nat) (l : List Bool), (turned k l).length = l.length
  | 0, _ => rfl
  | k + 1, l => by
    unfold turned
    rw [List.range_succ, List.foldl_append]
    exact (flipAt_length _ _).trans (turned_length k l)
theorem turned_succ (k : Nat) (l : List Bool) : turned (k + 1) l = flipAt (turned k l) k := by
  unfold turned; rw [List.range_succ, List.foldl_append]; rfl

theorem flipAt_get (l : List Bool) (q p : Nat) (hq : q < l.length) : (flipAt l q).getD p false = (l.getD p false ^^ decide (p = q)) := by
  unfold flipAt
  rw [List.getD_eq_getElem?_getD, List.getElem?_set]
  by_cases h : q = p
  · subst h; simp [hq]
  · rw [if_neg h]
    have : ¬ p = q := fun e => h e.symm
    simp [this]

theorem flips_get (i : Nat) : ∀ (ks : List Nat) (l : List Bool) (q : Nat), (∀ k ∈ ks, k ≤ 32) → ks.Nodup → i + 32 < l.length →
    (flips i ks l).getD q false = (l.getD q false ^^ decide (q ≤ i + 32 ∧ i + 32 - q ∈ ks))
  | [], l, q, _, _, _ => by simp [flips]
  | k :: ks, l, q, hk, hn, hl => by
    have hk0 := hk k (by simp)
    have hnd := List.nodup_cons.1 hn
    have ih := flips_get i ks (flipAt l (i + 32 - k)) q (fun x hx => hk x (by simp [hx])) hnd.2 (by rw [flipAt_length]; exact hl)
    have e : flips i (k :: ks) l = flips i ks (flipAt l (i + 32 - k)) := rfl
    rw [e, ih, flipAt_get _ _ _ (by omega)]
    by_cases h1 : q = i + 32 - k
    · have h2 : i + 32 - q = k := by omega
      have h3 : ¬ (q ≤ i + 32 ∧ i + 32 - q ∈ ks) := by rw [h2]; exact fun h => hnd.1 h.2
      have h4 : q ≤ i + 32 ∧ i + 32 - q ∈ k :: ks := ⟨by omega, by rw [h2]; simp⟩
      rw [decide_eq_true h1, decide_eq_false h3, decide_eq_true h4]
      cases l.getD q false <;> rfl
    · have h5 : (q ≤ i + 32 ∧ i + 32 - q ∈ k :: ks) ↔ (q ≤ i + 32 ∧ i + 32 - q ∈ ks) := by
        constructor
        · rintro ⟨a, b⟩
          rcases List.mem_cons.1 b with b | b
          · omega
          · exact ⟨a, b⟩
        · rintro ⟨a, b⟩; exact ⟨a, by simp [b]⟩
      have h6 : decide (q ≤ i + 32 ∧ i + 32 - q ∈ k :: ks) = decide (q ≤ i + 32 ∧ i + 32 - q ∈ ks) := decide_eq_decide.2 h5
      rw [decide_eq_false h1, h6]
      simp

theorem powers_pol : ∀ j : Fin 32, decide (31 - j.val ∈ powers) = pol.getLsbD j.val := by decide
theorem powers_small : ∀ k ∈ powers, k ≤ 32 := by decide
theorem powers_nodup : powers.Nodup := by decide

theorem flips_pol (i : Nat) (l : List Bool) (q : Nat) (hl : i + 32 < l.length) (hq : i + 1 ≤ q) :
    (flips i powers l).getD q false = (l.getD q false ^^ (decide (q < i + 33) && pol.getLsbD (q - i - 1))) := by
  rw [flips_get i powers l q powers_small powers_nodup hl]
  by_cases h : q < i + 33
  · have := powers_pol ⟨q - i - 1, by omega⟩
    simp only at this
    rw [← this, decide_eq_true h, Bool.true_and]
    congr 1
    rw [decide_eq_decide]
    rw [show i + 32 - q = 31 - (q - i - 1) from by omega]
    exact ⟨fun h => h.2, fun h' => ⟨by omega, h'⟩⟩
  · rw [decide_eq_false h, decide_eq_false (fun h' => h (by omega)), Bool.false_and]

theorem turned_get (l : List Bool) : ∀ (k q : Nat), k ≤ l.length → (turned k l).getD q false = (l.getD q false ^^ decide (q < k))
  | 0, q, _ => by simp [turned]
  | k + 1, q, h => by
    rw [turned_succ, flipAt_get _ _ _ (by rw [turned_length]; omega), turned_get l k q (by omega)]
    by_cases h1 : q = k
    · subst h1; simp
    · have : (q < k + 1) ↔ (q < k) := by omega
      simp [h1, this]

/-- the register behind the first i bits -/
def regAt (p : List UInt8) (i : Nat) : BitVec 32 := feed (BitVec.allOnes 32) ((bitsOf p).take i)

theorem regAt_succ (p : List UInt8) (i : Nat) (hi : i < 8 * p.length) : regAt p (i + 1) = st (regAt p i ^^^ bit ((startBits p).getD i false)) := by
  unfold regAt
  have hi' : i < (bitsOf p).length := by rw [bitsOf_length]; exact hi
  rw [List.take_succ_eq_append_getElem hi', feed_append]
  simp only [feed]
  congr 3
  unfold startBits
  rw [List.getD_eq_getElem?_getD, List.getElem?_append_left hi', List.getElem?_eq_getElem hi', Option.getD_some]

theorem startBits_length (p : List UInt8) : (startBits p).length = 8 * p.length + 32 := by simp [startBits, bitsOf_length]

theorem divs_inv (p : List UInt8) : ∀ (i : Nat), i ≤ 8 * p.length → ∀ q, i ≤ q → (divs i (turned 32 (startBits p))).getD q false = ((startBits p).getD q false ^^ (regAt p i).getLsbD (q - i))
  | 0, _, q, _ => by
    simp only [divs]
    rw [turned_get _ _ _ (by rw [startBits_length]; omega)]
    congr 1
    show _ = (BitVec.allOnes 32).getLsbD (q - 0)
    rw [BitVec.getLsbD_allOnes, Nat.sub_zero]
  | i + 1, hi, q, hq => by
    have ih := divs_inv p i (by omega)
    have hl : (divs i (turned 32 (startBits p))).length = 8 * p.length + 32 := by rw [divs_length, turned_length, startBits_length]
    have hb := ih i (Nat.le_refl _)
    have hq' := ih q (by omega)
    rw [Nat.sub_self] at hb
    have hst := st_bit (regAt p i ^^^ bit ((startBits p).getD i false))
    rw [regAt_succ p i (by omega)]
    have e1 : (regAt p i ^^^ bit ((startBits p).getD i false)).getLsbD 0 = ((startBits p).getD i false ^^ (regAt p i).getLsbD 0) := by
      rw [BitVec.getLsbD_xor, bit_get]; simp [Bool.xor_comm]
    by_cases h33 : q < i + 33
    · rw [hst (q - (i + 1)) (by omega), e1, ← hb]
      have e2 : (regAt p i ^^^ bit ((startBits p).getD i false)).getLsbD (q - (i + 1) + 1) = (regAt p i).getLsbD (q - i) := by
        rw [BitVec.getLsbD_xor, bit_get, show q - (i + 1) + 1 = q - i from by omega]
        have : ¬ (q - i = 0) := by omega
        simp [this]
      rw [e2, ← Bool.xor_assoc, ← hq']
      simp only [divs]
      split
      · rename_i hd
        rw [flips_pol i _ q (by omega) hq, hd, decide_eq_true h33, Bool.true_and, Bool.true_and, Nat.sub_sub]
      · rename_i hd
        rw [Bool.not_eq_true] at hd
        rw [hd]; simp
    · rw [BitVec.getLsbD_of_ge _ (q - (i + 1)) (by omega), Bool.xor_false]
      rw [BitVec.getLsbD_of_ge _ (q - i) (by omega), Bool.xor_false] at hq'
      rw [← hq']
      simp only [divs]
      split
      · rw [flips_pol i _ q (by omega) hq, decide_eq_false h33]; simp
      · rfl

theorem valN_lt (l : List Bool) : valN l < 2 ^ l.length := by
  induction l with
  | nil => simp [valN]
  | cons b l ih => simp only [valN, List.length_cons, Nat.pow_succ]; split <;> omega

theorem valN_bit (l : List Bool) : ∀ i, (valN l).testBit i = l.getD i false := by
  induction l with
  | nil => intro i; simp [valN]
  | cons b l ih =>
    intro i
    simp only [valN]
    cases i with
    | zero =>
      rw [Nat.testBit_zero]
      cases b <;> simp <;> omega
    | succ i =>
      rw [Nat.testBit_succ]
      have : (2 * valN l + if b = true then 1 else 0) / 2 = valN l := by split <;> omega
      rw [this, ih]
      simp

/-- the last 32, turned -/
def lastOf (l : List Bool) : List Bool := (l.drop (l.length - 32)).map (!·)

theorem ref_crc (p : List UInt8) : valN (lastOf (divs (8 * p.length) (turned 32 (startBits p)))) = (crc p).toNat := by
  have hl : (divs (8 * p.length) (turned 32 (startBits p))).length = 8 * p.length + 32 := by rw [divs_length, turned_length, startBits_length]
  have hll : (lastOf (divs (8 * p.length) (turned 32 (startBits p)))).length = 32 := by unfold lastOf; rw [List.length_map, List.length_drop, hl]; omega
  apply Nat.eq_of_testBit_eq
  intro i
  rw [valN_bit]
  rcases Nat.lt_or_ge i 32 with hi | hi
  · rw [crc_feed]
    rw [BitVec.testBit_toNat, BitVec.getLsbD_not]
    have := divs_inv p (8 * p.length) (Nat.le_refl _) (8 * p.length + i) (by omega)
    rw [Nat.add_sub_cancel_left] at this
    have e0 : (startBits p).getD (8 * p.length + i) false = false := by
      unfold startBits
      rw [List.getD_eq_getElem?_getD, List.getElem?_append_right (by rw [bitsOf_length]; omega), List.getElem?_replicate]
      split <;> rfl
    have e1 : regAt p (8 * p.length) = feed (BitVec.allOnes 32) (bitsOf p) := by
      unfold regAt; rw [List.take_of_length_le (by rw [bitsOf_length]; omega)]
    rw [e0, Bool.false_xor, e1] at this
    rw [← this]
    unfold lastOf
    rw [hl, Nat.add_sub_cancel, List.getD_eq_getElem?_getD, List.getElem?_map, List.getElem?_drop, List.getElem?_eq_getElem (by omega), List.getD_eq_getElem?_getD, List.getElem?_eq_getElem (by omega)]
    simp [hi]
  · rw [List.getD_eq_getElem?_getD, List.getElem?_eq_none (by omega), Nat.testBit_lt_two_pow (Nat.lt_of_lt_of_le (crc p).isLt (Nat.pow_le_pow_right (by omega) hi))]
    rfl

theorem bits8_get (c : UInt8) (j : Nat) (hj : j < 8) : (bits8 c).getD j false = c.toNat.testBit j := by
  unfold bits8
  rw [List.getD_eq_getElem?_getD, List.getElem?_map, List.getElem?_range hj]
  rfl

theorem bitsOf_get : ∀ (l : List UInt8) (k : Nat), k < 8 * l.length → (bitsOf l).getD k false = (l.getD (k / 8) 0).toNat.testBit (k % 8)
  | [], k, h => by simp at h
  | c :: l, k, h => by
    rw [bitsOf_cons, List.getD_eq_getElem?_getD]
    rcases Nat.lt_or_ge k 8 with h8 | h8
    · rw [List.getElem?_append_left (by rw [bits8_length]; exact h8), ← List.getD_eq_getElem?_getD, bits8_get c k h8, Nat.div_eq_of_lt h8, Nat.mod_eq_of_lt h8]
      rfl
    · rw [List.getElem?_append_right (by rw [bits8_length]; exact h8), bits8_length, ← List.getD_eq_getElem?_getD, bitsOf_get l (k - 8) (by simp at h; omega)]
      rw [show k / 8 = (k - 8) / 8 + 1 from by omega, show k % 8 = (k - 8) % 8 from by omega]
      rfl

theorem bit_num (x j : Nat) : ((((x : Int) / 2 ^ j).tmod 2) == 1) = x.testBit j := by
  have e : ((x : Int) / 2 ^ j) = ((x / 2 ^ j : Nat) : Int) := by simp
  rw [e, Nat.testBit_eq_decide_div_mod_eq]
  generalize x / 2 ^ j = y
  rw [Int.tmod_eq_emod_of_nonneg (by omega)]
  rw [Bool.eq_iff_iff, beq_iff_eq, decide_eq_true_eq]
  omega

/-- the bits that have been filled, and noughts -/
def filled (l : List UInt8) (k : Nat) : List Bool := (bitsOf l).take k ++ List.replicate (8 * l.length + 32 - k) false

theorem filled_length (l : List UInt8) (k : Nat) (hk : k ≤ 8 * l.length) : (filled l k).length = 8 * l.length + 32 := by
  unfold filled; rw [List.length_append, List.length_take, List.length_replicate, bitsOf_length]; omega

theorem filled_succ (l : List UInt8) (k : Nat) (hk : k < 8 * l.length) : (filled l k).set k ((bitsOf l).getD k false) = filled l (k + 1) := by
  have hk' : k < (bitsOf l).length := by rw [bitsOf_length]; exact hk
  unfold filled
  rw [List.set_append_right _ _ (by rw [List.length_take]; omega), List.length_take, Nat.min_eq_left (by omega), Nat.sub_self, List.take_succ_eq_append_getElem hk', List.append_assoc]
  congr 1
  rw [show 8 * l.length + 32 - k = (8 * l.length + 32 - (k + 1)) + 1 from by omega, List.replicate_succ, List.set_cons_zero, List.getD_eq_getElem?_getD, List.getElem?_eq_getElem hk']
  rfl

theorem filled_all (l : List UInt8) : filled l (8 * l.length) = startBits l := by
  unfold filled startBits
  rw [List.take_of_length_le (by rw [bitsOf_length]; omega), Nat.add_sub_cancel_left]

theorem flips_snoc (i j : Nat) (l : List Bool) (hj : j < powers.length) : flips i (powers.take (j + 1)) l = flipAt (flips i (powers.take j) l) (i + 32 - powers.getD j 0) := by
  unfold flips
  rw [List.take_succ_eq_append_getElem hj, List.foldl_append, List.getD_eq_getElem?_getD, List.getElem?_eq_getElem hj]
  rfl

theorem valN_step (l : List Bool) (m : Nat) (hm : m < l.length) : valN (l.drop (l.length - (m + 1))) = 2 * valN (l.drop (l.length - m)) + if l.getD (l.length - (m + 1)) false then 1 else 0 := by
  have h : l.length - (m + 1) < l.length := by omega
  rw [List.drop_eq_getElem_cons h]
  simp only [valN]
  rw [show l.length - (m + 1) + 1 = l.length - m from by omega, List.getD_eq_getElem?_getD, List.getElem?_eq_getElem h, Option.getD_some]

end Quad
