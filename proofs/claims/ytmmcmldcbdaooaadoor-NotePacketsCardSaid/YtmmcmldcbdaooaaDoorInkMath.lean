/- Numbers as bytes: seven bits a byte, the low ones ahead; what is read out of bytes. -/
import Derived.Test.YtmmcmldcbdaooaaDoorLib
namespace Quad.Ink

def numL (n : Nat) : List UInt8 := if n < 128 then [UInt8.ofNat n] else UInt8.ofNat (n % 128 + 128) :: numL (n / 128)
termination_by n
decreasing_by omega

theorem numL_small {n : Nat} (h : n < 128) : numL n = [UInt8.ofNat n] := by rw [numL, if_pos h]
theorem numL_big {n : Nat} (h : 128 ≤ n) : numL n = UInt8.ofNat (n % 128 + 128) :: numL (n / 128) := by rw [numL, if_neg (by omega)]

def valL : List UInt8 → Nat
  | [] => 0
  | b :: r => b.toNat % 128 + 128 * valL r

theorem valL_num (n : Nat) : valL (numL n) = n := by
  induction n using Nat.strongRecOn with
  | _ n ih =>
    rcases Nat.lt_or_ge n 128 with h | h
    · rw [numL_small h]; simp [valL]; omega
    · rw [numL_big h, valL, ih (n / 128) (by omega)]
      simp; omega

theorem numL_inj {a b : Nat} (h : numL a = numL b) : a = b := by rw [← valL_num a, ← valL_num b, h]
theorem numL_pos (n : Nat) : 1 ≤ (numL n).length := by
  rcases Nat.lt_or_ge n 128 with h | h
  · rw [numL_small h]; simp
  · rw [numL_big h]; simp
theorem numL_len : ∀ (k n : Nat), n < 128 ^ (k + 1) → (numL n).length ≤ k + 1
  | 0, n, h => by rw [numL_small (by simpa using h)]; simp
  | k + 1, n, h => by
    rcases Nat.lt_or_ge n 128 with h1 | h1
    · rw [numL_small h1]; simp
    · rw [numL_big h1, List.length_cons]
      have := numL_len k (n / 128) (by rw [Nat.div_lt_iff_lt_mul (by decide)]; rwa [Nat.pow_succ] at h)
      omega
theorem numL_len10 {n : Nat} (h : n < 18446744073709551616) : (numL n).length ≤ 10 := numL_len 9 n (Nat.lt_of_lt_of_le h (by decide))
theorem numL_mono {a b : Nat} (h : a ≤ b) : (numL a).length ≤ (numL b).length := by
  induction a using Nat.strongRecOn generalizing b with
  | _ a ih =>
    rcases Nat.lt_or_ge a 128 with h1 | h1
    · rw [numL_small h1]; exact numL_pos b
    · rw [numL_big h1, numL_big (Nat.le_trans h1 h), List.length_cons, List.length_cons]
      have := ih (a / 128) (by omega) (Nat.div_le_div_right (c := 128) h)
      omega

/-- what stands in front, from the byte with the number i on: its number and what stands behind -/
def rd (i : Nat) : List UInt8 → Option (Nat × List UInt8)
  | [] => none
  | b :: r => if 10 ≤ i then none else if i = 9 ∧ 1 < b.toNat then none else
      if b.toNat < 128 then (if b.toNat = 0 ∧ 0 < i then none else some (b.toNat, r)) else (rd (i + 1) r).map fun x => (b.toNat % 128 + 128 * x.1, x.2)

theorem rd_num (r : List UInt8) : ∀ (i n : Nat), n < 18446744073709551616 / 128 ^ i → i ≤ 9 → (0 < i → 0 < n) → rd i (numL n ++ r) = some (n, r) := by
  intro i n
  induction n using Nat.strongRecOn generalizing i with
  | _ n ih =>
    intro h hi h0
    rcases Nat.lt_or_ge n 128 with h1 | h1
    · rw [numL_small h1, List.cons_append, List.nil_append, rd, if_neg (by omega)]
      have hb : (UInt8.ofNat n).toNat = n := by simp; omega
      rw [hb, if_neg, if_pos h1, if_neg (by omega)]
      rintro ⟨rfl, h2⟩
      simp at h
      omega
    · have h9 : i ≠ 9 := by
        rintro rfl
        simp at h
        omega
      rw [numL_big h1, List.cons_append, rd, if_neg (by omega), if_neg (by omega)]
      have hb : (UInt8.ofNat (n % 128 + 128)).toNat = n % 128 + 128 := by simp; omega
      rw [hb, if_neg (by omega), ih (n / 128) (by omega) (i + 1) (by
        have e : 18446744073709551616 / 128 ^ (i + 1) = 18446744073709551616 / 128 ^ i / 128 := by rw [Nat.pow_succ, Nat.div_div_eq_div_mul]
        have hd : ∀ j : Fin 9, 18446744073709551616 / 128 ^ j.val % 128 = 0 := by decide
        have hd' := hd ⟨i, by omega⟩
        dsimp only at hd'
        rw [e]
        omega) (by omega) (by omega)]
      simp
      omega

theorem rd_num0 (r : List UInt8) {n : Nat} (h : n < 18446744073709551616) : rd 0 (numL n ++ r) = some (n, r) := rd_num r 0 n (by simpa using h) (by omega) (by omega)

theorem rd_behind {p r : List UInt8} {i n : Nat} (h : rd i p = some (n, r)) : ∃ k, r = p.drop (k + 1) ∧ k < p.length := by
  induction p generalizing i n with
  | nil => simp [rd] at h
  | cons b q ih =>
    rw [rd] at h
    split at h
    · cases h
    · split at h
      · cases h
      · split at h
        · split at h
          · cases h
          · cases h; exact ⟨0, rfl, by simp⟩
        · rw [Option.map_eq_some_iff] at h
          obtain ⟨⟨n', r'⟩, h1, h2⟩ := h
          cases h2
          obtain ⟨k, hk, hl⟩ := ih h1
          exact ⟨k + 1, by simpa using hk, by simp; omega⟩
end Quad.Ink
