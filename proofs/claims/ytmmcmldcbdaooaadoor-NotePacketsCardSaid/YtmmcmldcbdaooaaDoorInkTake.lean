/- What stands in front of bytes: the document's way and the code's are one. -/
import Derived.Test.YtmmcmldcbdaooaaDoorInkB
import Derived.Deep.QuietTactic
import Derived.BigQuiet
namespace Quad.Ink

theorem valL_snoc' (y : UInt8) : ∀ l : List UInt8, valL (l ++ [y]) = valL l + 128 ^ l.length * (y.toNat % 128)
  | [] => by simp [valL]
  | b :: l => by
    rw [List.cons_append, valL, valL_snoc' y l, valL, List.length_cons, Nat.pow_succ]
    rw [Nat.mul_add, Nat.add_assoc, ← Nat.mul_assoc, Nat.mul_comm 128 (128 ^ l.length)]

theorem valL_lt : ∀ l : List UInt8, valL l < 128 ^ l.length
  | [] => by simp [valL]
  | b :: l => by
    have := valL_lt l
    rw [valL, List.length_cons, Nat.pow_succ]
    omega

theorem valL_drop_le : ∀ (l : List UInt8) (i : Nat), valL (l.drop i) ≤ valL l
  | l, 0 => by simp
  | [], i + 1 => by simp
  | b :: l, i + 1 => by
    have := valL_drop_le l i
    rw [List.drop_succ_cons, valL]
    omega

/-- bytes of which all but the last go on -/
def Runs (l : List UInt8) (y : UInt8) : Prop := ∀ b ∈ l, 128 ≤ b.toNat

theorem num_len_good : ∀ (l : List UInt8) (y : UInt8), (∀ b ∈ l, 128 ≤ b.toNat) → y.toNat < 128 → (y.toNat ≠ 0 ∨ l = []) → (numL (valL (l ++ [y]))).length = l.length + 1 ∧ (y.toNat ≠ 0 → 1 ≤ valL (l ++ [y]))
  | [], y, _, hy, _ => by
    have e : valL ([] ++ [y]) = y.toNat := by simp [valL]; omega
    rw [e, numL_small hy]
    exact ⟨rfl, fun h => by omega⟩
  | b :: l, y, hb, hy, h0 => by
    have hne : y.toNat ≠ 0 := by rcases h0 with h | h; exact h; cases h
    obtain ⟨h1, h2⟩ := num_len_good l y (fun c hc => hb c (List.mem_cons_of_mem _ hc)) hy (.inl hne)
    have h3 := h2 hne
    rw [List.cons_append, valL]
    have hd : (b.toNat % 128 + 128 * valL (l ++ [y])) / 128 = valL (l ++ [y]) := by omega
    rw [numL_big (by omega), List.length_cons, hd, h1]
    exact ⟨rfl, fun _ => by omega⟩

theorem num_len_bad (l : List UInt8) (y : UInt8) (hy : y.toNat = 0) (hl : l ≠ []) : (numL (valL (l ++ [y]))).length ≤ l.length := by
  rw [valL_snoc', hy]
  have h := valL_lt l
  obtain ⟨k, hk⟩ : ∃ k, l.length = k + 1 := ⟨l.length - 1, by have := List.length_pos_iff.2 hl; omega⟩
  rw [hk] at h ⊢
  exact numL_len k _ (by simpa using h)
end Quad.Ink

namespace Go.Proofs.YtmmcmldcbdaooaaDoor
open Go.RowKit Go.Quad _root_.Quad.Ink

/-- what the document's loop has gone over -/
def TakeRel (p : List UInt8) (i : Value) : Prop :=
  ∃ k : Nat, k ≤ 10 ∧ k ≤ p.length ∧ i = .int .i64 (k : Int) ∧ (∀ b ∈ p.take k, 128 ≤ b.toNat) ∧
    ((k ≤ 9 ∧ rd 0 p = (rd k (p.drop k)).map fun x => (valL (p.take k) + 128 ^ k * x.1, x.2)) ∨ (k = 10 ∧ rd 0 p = none))

theorem take_next {p : List UInt8} {k : Nat} {y : UInt8} (hk : k < 10) (hd : p.drop k = y :: p.drop (k + 1)) (ht : p.take (k + 1) = p.take k ++ [y]) (hkp : k < p.length) (h128 : 128 ≤ y.toNat)
    (hr : rd 0 p = (rd k (p.drop k)).map fun x => (valL (p.take k) + 128 ^ k * x.1, x.2)) :
    (k + 1 ≤ 9 ∧ rd 0 p = (rd (k + 1) (p.drop (k + 1))).map fun x => (valL (p.take (k + 1)) + 128 ^ (k + 1) * x.1, x.2)) ∨ (k + 1 = 10 ∧ rd 0 p = none) := by
  by_cases h9 : k = 9
  · right
    exact ⟨by omega, rd_bad hr hd (.inl ⟨h9, by omega⟩)⟩
  · left
    refine ⟨by omega, ?_⟩
    rw [rd_next hk hr hd (by omega) (by omega), ht, valL_snoc, List.length_take, Nat.min_eq_left (by omega)]

/-- one byte more, from behind -/
theorem horner (l : List UInt8) (i : Nat) (y : UInt8) (h : l.drop i = y :: l.drop (i + 1)) : valL (l.drop i) = valL (l.drop (i + 1)) * 128 + y.toNat % 128 := by
  rw [h, valL]; omega

theorem take_bound {p : List UInt8} {k : Nat} {y : UInt8} (hk : k ≤ 9) (hkp : k < p.length) (ht : p.take (k + 1) = p.take k ++ [y]) (h9 : ¬ (k = 9 ∧ 1 < y.toNat)) : valL (p.take (k + 1)) < 18446744073709551616 := by
  rw [ht, valL_snoc, List.length_take, Nat.min_eq_left (by omega)]
  have h1 := valL_lt (p.take k)
  rw [List.length_take, Nat.min_eq_left (by omega)] at h1
  by_cases h : k = 9
  · subst h
    have e : (128 : Nat) ^ 9 = 9223372036854775808 := by decide
    rw [e] at h1 ⊢
    have : y.toNat % 128 ≤ 1 := by omega
    omega
  · have h8 : ∀ j : Fin 9, 128 ^ j.val * 128 ≤ 9223372036854775808 := by decide
    have h2 := h8 ⟨k, by omega⟩
    dsimp only at h2
    have h3 : 128 ^ k * (y.toNat % 128) ≤ 128 ^ k * 127 := Nat.mul_le_mul_left _ (by omega)
    omega

/-- what the document's Take answers -/
def TakeTo (w : World) (a : Option Addr) (p : List UInt8) (e : Ending) (w' : World) : Prop :=
  (match rd 0 p with
   | some (n, r) => ∃ a' c', e = .returned (.tuple #[.int .u64 (n : Int), .slice a' r.length c', .bool true]) ∧ BS w' a' c' r ∧ (∀ x, a' = some x → x.spot = none ∧ ∃ y, a = some y ∧ x.block = y.block)
   | none => e = .returned (.tuple #[.int .u64 0, .slice none 0 0, .bool false])) ∧ Below w.heap.size w w'

def HornRel (l : List UInt8) (n i : Value) : Prop :=
  ∃ j : Nat, j ≤ l.length ∧ i = .int .i64 ((j : Int) - 1) ∧ n = .int .u64 ((valL (l.drop j) : Nat) : Int)

theorem bs_read {w : World} {b off cap : Nat} {p : List UInt8} (h : BS w (some ⟨b, off, none⟩) cap p) (k : Nat) (hk : k < p.length) (o' : Nat) (ho : cap = k + 1 ∨ o' = off + (k + 1)) :
    BS w (some ⟨b, o', none⟩) (cap - (k + 1)) (p.drop (k + 1)) := by
  have hf := h.fit'
  have hm := CS.max h
  have hl : (p.drop (k + 1)).length = p.length - (k + 1) := List.length_drop
  rcases ho with rfl | rfl
  · have : p.drop (k + 1) = [] := List.eq_nil_of_length_eq_zero (by omega)
    rw [this]
    exact ⟨by simp, by omega, by simp, .inl (by simp)⟩
  · obtain ⟨b', off', e, hc⟩ := BS.at h (by omega)
    cases e
    refine BS.of_row (len := p.length - (k + 1)) hl (by omega) (by omega) fun i hi => ?_
    have := hc (k + 1 + i) (by omega)
    rw [show off + (k + 1) + i = off + (k + 1 + i) from by omega, this]
    simp

def ARel (k : Nat) (_n i : Value) : Prop := i = .int .i64 (k : Int)

theorem wrap_horn (V z : Nat) (h : V * 128 + z % 128 < 18446744073709551616) : IntKind.u64.wrap (IntKind.u64.wrap ((V : Int) * 128) + (z : Int) % 128) = ((V * 128 + z % 128 : Nat) : Int) := by
  rw [IntWalk.u64_in ((V : Int) * 128) ⟨by omega, by omega⟩, IntWalk.u64_in _ ⟨by omega, by omega⟩]
  omega

set_option maxRecDepth 20000 in
set_option maxHeartbeats 1000000 in
theorem take_calls (a : Option Addr) (cap : Nat) (p : List UInt8) (w : World) (h : BS w a cap p) :
    Calls Tryd.prog 92 #[.slice a p.length cap] w (TakeTo w a p) := by
  have hm := h.max'
  have hf := h.fit'
  have H := hid h
  clear h
  go_enter Tryd.func92, Tryd.ntmps92
  go_wp2_with fail
  go_loop [5] (fun i => TakeRel p i) (fun i => 10 - (intOf i).toNat)
  case atStart => exact ⟨0, by omega, by omega, rfl, by simp, .inl ⟨by omega, by simp [valL]⟩⟩
  case round =>
    obtain ⟨k, hk, hkp, rfl, hall, hr⟩ := hrel
    have Hr := hid hr
    have Ha := hid hall
    clear hr hall
    by_cases h10 : k < 10
    · by_cases hp : k < p.length
      · obtain ⟨b, off, rfl, hC⟩ := BS.at H.out (by omega)
        have HC := hid hC
        have hc := hC k hp
        clear hC
        have hb := (p[k]).toNat_lt
        have Hd := hid (show p.drop k = p[k] :: p.drop (k + 1) from List.drop_eq_getElem_cons hp)
        have Ht := hid (show p.take (k + 1) = p.take k ++ [p[k]] from List.take_succ_eq_append_getElem hp)
        generalize p[k] = y at hc hb Hd Ht
        generalize hx : y.toNat = x at hc hb
        have Hx := hid hx
        clear hx
        by_cases h128 : 128 ≤ x
        · have h128' : (128 : Int) ≤ (x : Int) := by omega
          go_wp2_with fail
          have R1 : TakeRel p (.int .i64 ((k : Int) + 1)) := by
            refine ⟨k + 1, by omega, by omega, by go_num, ?_, ?_⟩
            · rw [Ht.out]
              intro c hc'
              rcases List.mem_append.1 hc' with h1 | h1
              · exact Ha.out c h1
              · rw [List.mem_singleton] at h1; rw [h1, Hx.out]; exact h128
            · rcases Hr.out with ⟨h9, hr⟩ | ⟨h9, _⟩
              · exact take_next h10 Hd.out Ht.out hp (by rw [Hx.out]; exact h128) hr
              · omega
          refine ⟨?_, by simp [intOf]; omega⟩
          first | exact R1 | ((repeat apply Exists.intro); refine ⟨R1, ?_⟩; and_intros <;> rfl)
        · have h128' : ¬ ((128 : Int) ≤ (x : Int)) := by omega
          have hr : k ≤ 9 ∧ rd 0 p = (rd k (p.drop k)).map fun x => (valL (p.take k) + 128 ^ k * x.1, x.2) := by
            rcases Hr.out with h1 | ⟨h9, _⟩
            · exact h1
            · omega
          have Hr' := hid hr.2
          have hk9 := hr.1
          clear hr Hr
          by_cases hA : k = 9 ∧ 1 < x
          · have h9b : ((k : Int) == 9) = true := by simp; omega
            have h1' : (1 : Int) < (x : Int) := by omega
            have HA := hid hA
            clear hA
            go_wp2_with fail
            go_loop [2, 3, 4, 6, 7] (fun _ _ _ n i => ARel k n i) (fun _ _ _ _ i => (intOf i).toNat)
            case atStart => exact rfl
            case round =>
              obtain rfl := hrel
              go_wp2_with fail
              go_ret3
              unfold TakeTo
              rw [rd_bad Hr'.out Hd.out (.inl (by rw [Hx.out]; exact HA.out))]
              exact ⟨rfl, Below.refl _ _⟩
          · have HA := hid hA
            clear hA
            go_wp2_with fail
            go_loop [2, 3, 4, 6, 7] (fun _ _ _ n i => HornRel (p.take (k + 1)) n i) (fun _ _ _ _ i => (intOf i + 1).toNat)
            case atStart => exact ⟨k + 1, by rw [List.length_take]; omega, by go_num, by rw [List.drop_of_length_le (by rw [List.length_take]; omega)]; rfl⟩
            case round =>
              obtain ⟨j, hj, rfl, rfl⟩ := hrel
              have hlen : (p.take (k + 1)).length = k + 1 := by rw [List.length_take]; omega
              rw [hlen] at hj
              have hvb := hid (take_bound hk9 hp Ht.out (by rw [Hx.out]; exact HA.out))
              rcases Nat.eq_zero_or_pos j with rfl | hj0
              · generalize hV : valL (p.take (k + 1)) = V at hvb
                have HV := hid hV
                rw [List.drop_zero, hV]
                have hVt : valL (p.take k ++ [y]) = V := by rw [← Ht.out, hV]
                have hkl : (p.take k).length = k := by rw [List.length_take]; omega
                have Hk := hid hkp
                clear hV hlen
                by_cases h0 : x = 0 ∧ 0 < k
                · have hlb : (numL V).length ≤ k := by
                    have := num_len_bad (p.take k) y (by rw [Hx.out]; exact h0.1) (by intro e; rw [e] at hkl; simp at hkl; omega)
                    rw [hVt, hkl] at this
                    exact this
                  have hne : (((numL V).length : Int) == (k : Int) + 1) = false := by simp; omega
                  have H0 := hid h0
                  clear h0 hVt hkl hlb
                  go_wp2_with fail
                  refine (refnum_calls V hvb.out w).mono ?_
                  rintro e w1 ⟨v, rfl, ho, hb1⟩
                  obtain ⟨a1, c1, rfl, _, _⟩ := ho.bs
                  have Hb1 := hid hb1
                  clear ho hb1
                  go_wp2_with fail
                  go_ret3
                  unfold TakeTo
                  rw [rd_bad Hr'.out Hd.out (.inr (by rw [Hx.out]; have := H0.out; omega))]
                  exact ⟨rfl, Hb1.out⟩
                · have hlg : (numL V).length = k + 1 := by
                    have := (num_len_good (p.take k) y Ha.out (by rw [Hx.out]; omega) (by
                      by_cases hk0 : k = 0
                      · right; subst hk0; rfl
                      · left; rw [Hx.out]; omega)).1
                    rw [hVt, hkl] at this
                    exact this
                  have hne : (((numL V).length : Int) == (k : Int) + 1) = true := by simp; omega
                  have Hr2 := hid (rd_ret h10 Hr'.out Hd.out (by rw [Hx.out]; exact HA.out) (by rw [Hx.out]; omega) (by rw [Hx.out]; exact h0))
                  have hVx : valL (p.take k) + 128 ^ k * (y.toNat % 128) = V := by rw [← hVt, valL_snoc, hkl]
                  rw [hVx] at Hr2
                  clear h0 hVt hkl hlg hVx
                  go_wp2_with fail
                  refine (refnum_calls V hvb.out w).mono ?_
                  rintro e w1 ⟨v, rfl, ho, hb1⟩
                  obtain ⟨a1, c1, rfl, _, _⟩ := ho.bs
                  have Hb1 := hid hb1
                  clear ho hb1
                  go_wp2_with fail
                  go_quiet (fail)
                  obtain ⟨o', ho', e⟩ : ∃ o', (cap = k + 1 ∨ o' = off + (k + 1)) ∧ (if cap = k + 1 then some (⟨b, off, none⟩ : Addr) else some ⟨b, off + (k + 1), none⟩) = some ⟨b, o', none⟩ := by
                    by_cases hcap : cap = k + 1
                    · exact ⟨off, .inl hcap, by rw [if_pos hcap]⟩
                    · exact ⟨off + (k + 1), .inr rfl, by rw [if_neg hcap]⟩
                  rw [e]
                  go_wp2_with fail
                  go_ret3
                  unfold TakeTo
                  rw [Hr2.out]
                  refine ⟨⟨some ⟨b, o', none⟩, cap - (k + 1), by rw [List.length_drop]; rfl, ?_, ?_⟩, Hb1.out.trans ((below_drewN (Below.refl _ w1) nq).mono Hb1.out.size)⟩
                  · exact ((bs_read H.out k hp o' ho').below Hb1.out).below (below_drewN (Below.refl _ _) nq)
                  · intro q hq; cases hq; exact ⟨rfl, _, rfl, rfl⟩
              · obtain ⟨i, rfl⟩ : ∃ i, j = i + 1 := ⟨j - 1, by omega⟩
                have hi : i < p.length := by omega
                have hci := HC.out i hi
                have hzb := (p[i]).toNat_lt
                have hdl := hid (show (p.take (k + 1)).drop i = p[i] :: (p.take (k + 1)).drop (i + 1) by
                  rw [List.drop_eq_getElem_cons (by omega), List.getElem_take])
                have hle := valL_drop_le (p.take (k + 1)) i
                have h9 : i = 9 → (p[i]).toNat ≤ 1 := by
                  rintro rfl
                  have hk : k = 9 := by omega
                  subst hk
                  have e := Hd.out
                  rw [List.drop_eq_getElem_cons hp, List.cons.injEq] at e
                  rw [e.1, Hx.out]
                  have := HA.out
                  omega
                generalize p[i] = z at hci hzb hdl h9
                have hhn := horner _ i z hdl.out
                have hle' : valL ((p.take (k + 1)).drop (i + 1)) * 128 + z.toNat % 128 < 18446744073709551616 := by rw [← hhn]; exact Nat.lt_of_le_of_lt hle hvb.out
                have Hhn := hid hhn
                generalize hV : valL ((p.take (k + 1)).drop (i + 1)) = V at Hhn hle'
                have HV := hid hV
                try rw [hV]
                generalize hz : z.toNat = zn at hci hzb h9 hle' Hhn
                have Hz := hid hz
                have Hle := hid hle'
                have ei : (((i + 1 : Nat) : Int) - 1) = (i : Int) := by omega
                rw [ei]
                clear hz hV hhn hle hle' hlen ei hj0
                by_cases i9 : i = 9
                · have i9b : ((i : Int) == 9) = true := by simp; omega
                  have h9' : ¬ ((1 : Int) < (zn : Int)) := by have := h9 i9; omega
                  clear i9 h9
                  go_wp2_with fail
                  rw [wrap_horn V zn Hle.out]
                  have R1 : HornRel (p.take (k + 1)) (.int .u64 ((V * 128 + zn % 128 : Nat) : Int)) (.int .i64 ((i : Int) - 1)) := ⟨i, by rw [List.length_take]; omega, rfl, by rw [Hhn.out]⟩
                  refine ⟨?_, by simp [intOf] <;> omega⟩
                  first | exact R1 | ((repeat apply Exists.intro); refine ⟨R1, ?_⟩; and_intros <;> rfl)
                · have i9b : ((i : Int) == 9) = false := by simp; omega
                  clear i9 h9
                  go_wp2_with fail
                  rw [wrap_horn V zn Hle.out]
                  have R1 : HornRel (p.take (k + 1)) (.int .u64 ((V * 128 + zn % 128 : Nat) : Int)) (.int .i64 ((i : Int) - 1)) := ⟨i, by rw [List.length_take]; omega, rfl, by rw [Hhn.out]⟩
                  refine ⟨?_, by simp [intOf] <;> omega⟩
                  first | exact R1 | ((repeat apply Exists.intro); refine ⟨R1, ?_⟩; and_intros <;> rfl)
      · obtain rfl : k = p.length := by omega
        have hN : rd 0 p = none := by
          rcases Hr.out with ⟨_, h1⟩ | ⟨_, h1⟩
          · rw [h1, List.drop_length]; rfl
          · exact h1
        have HN := hid hN
        clear hN Hr
        go_wp2_with fail
        go_ret3
        unfold TakeTo
        rw [HN.out]
        exact ⟨rfl, Below.refl _ _⟩
    · obtain rfl : k = 10 := by omega
      have hN : rd 0 p = none := by
        rcases Hr.out with ⟨h9, _⟩ | ⟨_, h1⟩
        · omega
        · exact h1
      have HN := hid hN
      clear hN Hr
      go_wp2_with fail
      all_goals go_ret3
      all_goals unfold TakeTo
      all_goals rw [HN.out]
      all_goals exact ⟨rfl, Below.refl _ _⟩
end Go.Proofs.YtmmcmldcbdaooaaDoor
