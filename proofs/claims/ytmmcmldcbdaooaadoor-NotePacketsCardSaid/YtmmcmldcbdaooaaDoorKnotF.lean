/- Plain: what stands in front of a knot, cut, turned; the walks of Untie, of a text too long, of the reference's knot. -/
import Derived.Test.YtmmcmldcbdaooaaDoorKnotE
namespace Go.Proofs.YtmmcmldcbdaooaaDoor
open Go.RowKit Go.Quad _root_.Quad

def untieL (p : List UInt8) : List UInt8 × Int :=
  if (nextL p).2.2 = 0 then (if 0 < (nextL p).2.1.length then ([], 4) else ((nextL p).1, 0)) else ([], (nextL p).2.2)

theorem tieL_length (t : List UInt8) : (tieL t).length = t.length + 6 := by simp [tieL, frontL, tailL]

theorem lenL_tie (t r : List UInt8) (h : t.length ≤ 2048) : lenL (tieL t ++ r) = t.length := by
  unfold lenL tieL frontL
  simp only [List.cons_append, List.getD_cons_zero, List.getD_cons_succ, UInt8.toNat_ofNat']
  omega

theorem take_front (t r : List UInt8) : (tieL t ++ r).take (t.length + 2) = frontL t := by
  have : (frontL t).length = t.length + 2 := rfl
  rw [← this]; unfold tieL; rw [List.append_assoc]; exact List.take_left

theorem drop_front (t r : List UInt8) : (tieL t ++ r).drop (t.length + 2) = tailL (crc (frontL t)) ++ r := by
  have : (frontL t).length = t.length + 2 := rfl
  rw [← this]; unfold tieL; rw [List.append_assoc]; exact List.drop_left

/-- A KNOT IS READ -/
theorem nextL_tie (t r : List UInt8) (h : t.length ≤ 2048) : nextL (tieL t ++ r) = (t, r, 0) := by
  unfold nextL
  rw [lenL_tie t r h, take_front, drop_front]
  rw [if_neg (by rw [List.length_append, tieL_length]; omega), if_neg (by omega), if_neg (by rw [List.length_append, tieL_length]; omega)]
  have h4 : (tailL (crc (frontL t))).length = 4 := rfl
  rw [if_pos (by rw [← h4, List.take_left]; simp)]
  have h1 : ((tieL t ++ r).drop 2).take t.length = t := by
    unfold tieL frontL
    simp only [List.cons_append, List.drop_succ_cons, List.drop_zero, List.append_assoc]
    exact List.take_left
  have h2 : (tieL t ++ r).drop (t.length + 6) = r := by
    rw [← tieL_length]; exact List.drop_left
  rw [h1, h2]

theorem untieL_tie (t : List UInt8) (h : t.length ≤ 2048) : untieL (tieL t) = (t, 0) := by
  have := nextL_tie t [] h
  rw [List.append_nil] at this
  unfold untieL
  rw [this]
  simp

/-- A KNOT THAT IS CUT IS NONE -/
theorem nextL_cut (t : List UInt8) (m : Nat) (h : t.length ≤ 2048) (hm : m < t.length + 6) : nextL ((tieL t).take m) = ([], [], 2) := by
  have hlen : ((tieL t).take m).length = m := by rw [List.length_take, tieL_length]; omega
  unfold nextL
  by_cases h2 : m < 2
  · rw [if_pos (by rw [hlen]; exact h2)]
  · rw [if_neg (by rw [hlen]; exact h2)]
    have e : lenL ((tieL t).take m) = t.length := by
      have := lenL_tie t [] h
      rw [List.append_nil] at this
      rw [← this]
      unfold lenL
      simp only [List.getD_eq_getElem?_getD, List.getElem?_take]
      rw [if_pos (by omega), if_pos (by omega)]
    rw [e, if_neg (by omega), if_pos (by rw [hlen]; exact hm)]

/-- too long by its head -/
theorem nextL_long (p : List UInt8) (h : 2 ≤ p.length) (hl : 2048 < lenL p) : nextL p = ([], [], 3) := by
  unfold nextL; rw [if_neg (by omega), if_pos hl]

theorem ofNat_bit (x j r : Nat) (hr : r < 8) : (UInt8.ofNat (x / 2 ^ (8 * j))).toNat.testBit r = x.testBit (8 * j + r) := by
  rw [UInt8.toNat_ofNat', Nat.testBit_mod_two_pow, Nat.testBit_div_two_pow, Nat.add_comm r]
  simp [hr]

theorem word_tail (c : BitVec 32) : word (bitsOf (tailL c)) = c := by
  apply BitVec.eq_of_getLsbD_eq
  intro i hi
  rw [word_get _ i hi, bitsOf_get _ i (by show i < 8 * 4; omega), ← BitVec.testBit_toNat]
  have h8 : i % 8 < 8 := Nat.mod_lt _ (by omega)
  have hc : i / 8 = 0 ∨ i / 8 = 1 ∨ i / 8 = 2 ∨ i / 8 = 3 := by omega
  rcases hc with hc | hc | hc | hc <;> rw [hc]
  · have := ofNat_bit c.toNat 0 (i % 8) h8
    rw [show 8 * 0 + i % 8 = i from by omega] at this
    rw [← this]
    simp [tailL]
  · have := ofNat_bit c.toNat 1 (i % 8) h8
    rw [show 8 * 1 + i % 8 = i from by omega] at this
    rw [← this]
    rfl
  · have := ofNat_bit c.toNat 2 (i % 8) h8
    rw [show 8 * 2 + i % 8 = i from by omega] at this
    rw [← this]
    rfl
  · have := ofNat_bit c.toNat 3 (i % 8) h8
    rw [show 8 * 3 + i % 8 = i from by omega] at this
    rw [← this]
    rfl

/-- what a right sum leaves in the register -/
theorem right_sum (d : List UInt8) : feed (BitVec.allOnes 32) (bitsOf (d ++ tailL (crc d))) = stn 32 (BitVec.allOnes 32) := by
  rw [bitsOf_append, feed_append, feed_word _ _ (by rw [bitsOf_length]; exact Nat.le_refl _), bitsOf_length, word_tail, crc_feed]
  show stn 32 _ = _
  congr 1
  apply BitVec.eq_of_getLsbD_eq
  intro i hi
  rw [BitVec.getLsbD_xor, BitVec.getLsbD_not, BitVec.getLsbD_allOnes]
  simp [hi]

/-- EVERY BURST IS FOUND -/
theorem untieL_burst (t : List UInt8) (at' pat : Nat) (h : t.length ≤ 2048) (hat : at' < 8 * (t.length + 6)) (hp : pat.testBit 0 = true) : (untieL (turnN at' pat 32 (tieL t))).2 ≠ 0 := by
  intro hz
  have hl : (turnN at' pat 32 (tieL t)).length = t.length + 6 := by rw [turnN_length, tieL_length]
  have hb := turnN_burst at' pat (tieL t) (by rw [tieL_length]; omega)
  generalize turnN at' pat 32 (tieL t) = k at hz hl hb
  have hk : (k.drop (lenL k + 2)).take 4 = tailL (crc (k.take (lenL k + 2))) ∧ k.length = lenL k + 6 := by
    unfold untieL at hz
    split at hz
    · split at hz
      · simp at hz
      · rename_i h0 h1
        unfold nextL at h0 h1
        rw [if_neg (by omega)] at h0 h1
        split at h0
        · simp at h0
        · rename_i h2
          rw [if_neg h2] at h1
          split at h0
          · simp at h0
          · rename_i h3
            rw [if_neg h3] at h1
            split at h0
            · rename_i h4
              rw [if_pos h4] at h1
              simp only [List.length_drop] at h1
              exact ⟨by simpa using h4, by omega⟩
            · simp at h0
    · rename_i h0; exact (h0 hz).elim
  obtain ⟨hsum, hlen⟩ := hk
  have hlk : lenL k = t.length := by omega
  rw [hlk] at hsum
  have hr : k = k.take (t.length + 2) ++ tailL (crc (k.take (t.length + 2))) := by
    have e4 : (k.drop (t.length + 2)).take 4 = k.drop (t.length + 2) := List.take_of_length_le (by rw [List.length_drop]; omega)
    rw [← hsum, e4, List.take_append_drop]
  have r1 := right_sum (k.take (t.length + 2))
  rw [← hr] at r1
  have r2 := right_sum (frontL t)
  rw [show frontL t ++ tailL (crc (frontL t)) = tieL t from rfl] at r2
  rw [hb] at r1
  have hx := feed_xor (bitsOf (tieL t)) (burst at' pat (8 * (tieL t).length)) (BitVec.allOnes 32) 0#32 (by rw [burst_length _ _ _ (by rw [tieL_length]; omega), bitsOf_length])
  rw [BitVec.xor_zero, r1, r2] at hx
  have h0 : feed 0#32 (burst at' pat (8 * (tieL t).length)) = 0#32 := by
    have h1 := congrArg (fun x => stn 32 (BitVec.allOnes 32) ^^^ x) hx
    simp only [BitVec.xor_self] at h1
    rw [← BitVec.xor_assoc, BitVec.xor_self, BitVec.zero_xor] at h1
    exact h1.symm
  exact feed_burst_ne at' pat _ (by rw [tieL_length]; exact hat) hp h0
end Go.Proofs.YtmmcmldcbdaooaaDoor
