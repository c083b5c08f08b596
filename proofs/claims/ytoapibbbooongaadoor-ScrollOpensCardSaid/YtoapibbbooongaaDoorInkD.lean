/- What stands in front of bytes: the document's way and the code's are one. (Several texts in one: InkTake, InkD, InkE, InkF, InkG.) -/
import Derived.Test.YtoapibbbooongaaDoorInkA
import Derived.Deep.QuietTactic
import Derived.BigQuiet

/- What stands in front of bytes: the document's way and the code's are one. -/
namespace Quad.Ink

theorem valL_snoc' (y : UInt8) : ∀ l : List UInt8, valL (l ++ [y]) = valL l + 128 ^ l.length * (y.toNat % 128)
  | [] => by simp [valL]
  | b :: l => by
    rw [List.cons_append, valL, valL_snoc' y l, valL, List.length_cons, Nat.pow_succ]
    rw [Nat.mul_add, Nat.add_assoc, ← Nat.mul_assoc, Nat.mul_comm 128 (128 ^ l.length)]

theorem valL_lt : ∀ l : List UInt8, valL l < 128 ^ l.length
  | [] => by simp [valL]
  | b :: l => by
    have := valL_lt l
    rw [valL, List.length_cons, Nat.pow_succ]
    omega

theorem valL_drop_le : ∀ (l : List UInt8) (i : Nat), valL (l.drop i) ≤ valL l
  | l, 0 => by simp
  | [], i + 1 => by simp
  | b :: l, i + 1 => by
    have := valL_drop_le l i
    rw [List.drop_succ_cons, valL]
    omega

/-- bytes of which all but the last go on -/
def Runs (l : List UInt8) (_y : UInt8) : Prop := ∀ b ∈ l, 128 ≤ b.toNat

theorem num_len_good : ∀ (l : List UInt8) (y : UInt8), (∀ b ∈ l, 128 ≤ b.toNat) → y.toNat < 128 → (y.toNat ≠ 0 ∨ l = []) → (numL (valL (l ++ [y]))).length = l.length + 1 ∧ (y.toNat ≠ 0 → 1 ≤ valL (l ++ [y]))
  | [], y, _, hy, _ => by
    have e : valL ([] ++ [y]) = y.toNat := by simp [valL]; omega
    rw [e, numL_small hy]
    exact ⟨rfl, fun h => by omega⟩
  | b :: l, y, hb, hy, h0 => by
    have hne : y.toNat ≠ 0 := by rcases h0 with h | h; exact h; cases h
    obtain ⟨h1, h2⟩ := num_len_good l y (fun c hc => hb c (List.mem_cons_of_mem _ hc)) hy (.inl hne)
    have h3 := h2 hne
    rw [List.cons_append, valL]
    have hd : (b.toNat % 128 + 128 * valL (l ++ [y])) / 128 = valL (l ++ [y]) := by omega
    rw [numL_big (by omega), List.length_cons, hd, h1]
    exact ⟨rfl, fun _ => by omega⟩

theorem num_len_bad (l : List UInt8) (y : UInt8) (hy : y.toNat = 0) (hl : l ≠ []) : (numL (valL (l ++ [y]))).length ≤ l.length := by
  rw [valL_snoc', hy]
  have h := valL_lt l
  obtain ⟨k, hk⟩ : ∃ k, l.length = k + 1 := ⟨l.length - 1, by have := List.length_pos_iff.2 hl; omega⟩
  rw [hk] at h ⊢
  exact numL_len k _ (by simpa using h)
end Quad.Ink

namespace Go.Proofs.YtoapibbbooongaaDoor
open Go.RowKit Go.Quad _root_.Quad.Ink

/-- what the document's loop has gone over -/
def TakeRel (p : List UInt8) (i : Value) : Prop :=
  ∃ k : Nat, k ≤ 10 ∧ k ≤ p.length ∧ i = .int .i64 (k : Int) ∧ (∀ b ∈ p.take k, 128 ≤ b.toNat) ∧
    ((k ≤ 9 ∧ rd 0 p = (rd k (p.drop k)).map fun x => (valL (p.take k) + 128 ^ k * x.1, x.2)) ∨ (k = 10 ∧ rd 0 p = none))

theorem take_next {p : List UInt8} {k : Nat} {y : UInt8} (hk : k < 10) (hd : p.drop k = y :: p.drop (k + 1)) (ht : p.take (k + 1) = p.take k ++ [y]) (hkp : k < p.length) (h128 : 128 ≤ y.toNat)
    (hr : rd 0 p = (rd k (p.drop k)).map fun x => (valL (p.take k) + 128 ^ k * x.1, x.2)) :
    (k + 1 ≤ 9 ∧ rd 0 p = (rd (k + 1) (p.drop (k + 1))).map fun x => (valL (p.take (k + 1)) + 128 ^ (k + 1) * x.1, x.2)) ∨ (k + 1 = 10 ∧ rd 0 p = none) := by
  by_cases h9 : k = 9
  · right
    exact ⟨by omega, rd_bad hr hd (.inl ⟨h9, by omega⟩)⟩
  · left
    refine ⟨by omega, ?_⟩
    rw [rd_next hk hr hd (by omega) (by omega), ht, valL_snoc, List.length_take, Nat.min_eq_left (by omega)]

/-- one byte more, from behind -/
theorem horner (l : List UInt8) (i : Nat) (y : UInt8) (h : l.drop i = y :: l.drop (i + 1)) : valL (l.drop i) = valL (l.drop (i + 1)) * 128 + y.toNat % 128 := by
  rw [h, valL]; omega

theorem take_bound {p : List UInt8} {k : Nat} {y : UInt8} (hk : k ≤ 9) (hkp : k < p.length) (ht : p.take (k + 1) = p.take k ++ [y]) (h9 : ¬ (k = 9 ∧ 1 < y.toNat)) : valL (p.take (k + 1)) < 18446744073709551616 := by
  rw [ht, valL_snoc, List.length_take, Nat.min_eq_left (by omega)]
  have h1 := valL_lt (p.take k)
  rw [List.length_take, Nat.min_eq_left (by omega)] at h1
  by_cases h : k = 9
  · subst h
    have e : (128 : Nat) ^ 9 = 9223372036854775808 := by decide
    rw [e] at h1 ⊢
    have : y.toNat % 128 ≤ 1 := by omega
    omega
  · have h8 : ∀ j : Fin 9, 128 ^ j.val * 128 ≤ 9223372036854775808 := by decide
    have h2 := h8 ⟨k, by omega⟩
    dsimp only at h2
    have h3 : 128 ^ k * (y.toNat % 128) ≤ 128 ^ k * 127 := Nat.mul_le_mul_left _ (by omega)
    omega

/-- what the document's Take answers -/
def InkTakeTo (w : World) (a : Option Addr) (p : List UInt8) (e : Ending) (w' : World) : Prop :=
  (match rd 0 p with
   | some (n, r) => ∃ a' c', e = .returned (.tuple #[.int .u64 (n : Int), .slice a' r.length c', .bool true]) ∧ BS w' a' c' r ∧ (∀ x, a' = some x → x.spot = none ∧ ∃ y, a = some y ∧ x.block = y.block)
   | none => e = .returned (.tuple #[.int .u64 0, .slice none 0 0, .bool false])) ∧ Below w.heap.size w w'

def HornRel (l : List UInt8) (n i : Value) : Prop :=
  ∃ j : Nat, j ≤ l.length ∧ i = .int .i64 ((j : Int) - 1) ∧ n = .int .u64 ((valL (l.drop j) : Nat) : Int)

theorem bs_read {w : World} {b off cap : Nat} {p : List UInt8} (h : BS w (some ⟨b, off, none⟩) cap p) (k : Nat) (hk : k < p.length) (o' : Nat) (ho : cap = k + 1 ∨ o' = off + (k + 1)) :
    BS w (some ⟨b, o', none⟩) (cap - (k + 1)) (p.drop (k + 1)) := by
  have hf := h.fit'
  have hm := CS.max h
  have hl : (p.drop (k + 1)).length = p.length - (k + 1) := List.length_drop
  rcases ho with rfl | rfl
  · have : p.drop (k + 1) = [] := List.eq_nil_of_length_eq_zero (by omega)
    rw [this]
    exact ⟨by simp, by omega, by simp, .inl (by simp)⟩
  · obtain ⟨b', off', e, hc⟩ := BS.at h (by omega)
    cases e
    refine BS.of_row (len := p.length - (k + 1)) hl (by omega) (by omega) fun i hi => ?_
    have := hc (k + 1 + i) (by omega)
    rw [show off + (k + 1) + i = off + (k + 1 + i) from by omega, this]
    simp

def ARel (k : Nat) (_n i : Value) : Prop := i = .int .i64 (k : Int)

theorem wrap_horn (V z : Nat) (h : V * 128 + z % 128 < 18446744073709551616) : IntKind.u64.wrap (IntKind.u64.wrap ((V : Int) * 128) + (z : Int) % 128) = ((V * 128 + z % 128 : Nat) : Int) := by
  rw [IntWalk.u64_in ((V : Int) * 128) ⟨by omega, by omega⟩, IntWalk.u64_in _ ⟨by omega, by omega⟩]
  omega

set_option maxRecDepth 20000 in
set_option maxHeartbeats 1000000 in
theorem inktake_calls (a : Option Addr) (cap : Nat) (p : List UInt8) (w : World) (h : BS w a cap p) :
    Calls Tryd.prog 145 #[.slice a p.length cap] w (InkTakeTo w a p) := by
  have hm := h.max'
  have hf := h.fit'
  have H := hid h
  clear h
  go_enter Tryd.func145, Tryd.ntmps145
  go_wp2_with fail
  go_loop [5] (fun i => TakeRel p i) (fun i => 10 - (intOf i).toNat)
  case atStart => exact ⟨0, by omega, by omega, rfl, by simp, .inl ⟨by omega, by simp [valL]⟩⟩
  case round =>
    obtain ⟨k, hk, hkp, rfl, hall, hr⟩ := hrel
    have Hr := hid hr
    have Ha := hid hall
    clear hr hall
    by_cases h10 : k < 10
    · by_cases hp : k < p.length
      · obtain ⟨b, off, rfl, hC⟩ := BS.at H.out (by omega)
        have HC := hid hC
        have hc := hC k hp
        clear hC
        have hb := (p[k]).toNat_lt
        have Hd := hid (show p.drop k = p[k] :: p.drop (k + 1) from List.drop_eq_getElem_cons hp)
        have Ht := hid (show p.take (k + 1) = p.take k ++ [p[k]] from List.take_succ_eq_append_getElem hp)
        generalize p[k] = y at hc hb Hd Ht
        generalize hx : y.toNat = x at hc hb
        have Hx := hid hx
        clear hx
        by_cases h128 : 128 ≤ x
        · have h128' : (128 : Int) ≤ (x : Int) := by omega
          go_wp2_with fail
          have R1 : TakeRel p (.int .i64 ((k : Int) + 1)) := by
            refine ⟨k + 1, by omega, by omega, by go_num, ?_, ?_⟩
            · rw [Ht.out]
              intro c hc'
              rcases List.mem_append.1 hc' with h1 | h1
              · exact Ha.out c h1
              · rw [List.mem_singleton] at h1; rw [h1, Hx.out]; exact h128
            · rcases Hr.out with ⟨h9, hr⟩ | ⟨h9, _⟩
              · exact take_next h10 Hd.out Ht.out hp (by rw [Hx.out]; exact h128) hr
              · omega
          refine ⟨?_, by simp [intOf]; omega⟩
          first | exact R1 | ((repeat apply Exists.intro); refine ⟨R1, ?_⟩; and_intros <;> rfl)
        · have h128' : ¬ ((128 : Int) ≤ (x : Int)) := by omega
          have hr : k ≤ 9 ∧ rd 0 p = (rd k (p.drop k)).map fun x => (valL (p.take k) + 128 ^ k * x.1, x.2) := by
            rcases Hr.out with h1 | ⟨h9, _⟩
            · exact h1
            · omega
          have Hr' := hid hr.2
          have hk9 := hr.1
          clear hr Hr
          by_cases hA : k = 9 ∧ 1 < x
          · have h9b : ((k : Int) == 9) = true := by simp; omega
            have h1' : (1 : Int) < (x : Int) := by omega
            have HA := hid hA
            clear hA
            go_wp2_with fail
            go_loop [2, 3, 4, 6, 7] (fun _ _ _ n i => ARel k n i) (fun _ _ _ _ i => (intOf i).toNat)
            case atStart => exact rfl
            case round =>
              obtain rfl := hrel
              go_wp2_with fail
              go_ret3
              unfold InkTakeTo
              rw [rd_bad Hr'.out Hd.out (.inl (by rw [Hx.out]; exact HA.out))]
              exact ⟨rfl, Below.refl _ _⟩
          · have HA := hid hA
            clear hA
            go_wp2_with fail
            go_loop [2, 3, 4, 6, 7] (fun _ _ _ n i => HornRel (p.take (k + 1)) n i) (fun _ _ _ _ i => (intOf i + 1).toNat)
            case atStart => exact ⟨k + 1, by rw [List.length_take]; omega, by go_num, by rw [List.drop_of_length_le (by rw [List.length_take]; omega)]; rfl⟩
            case round =>
              obtain ⟨j, hj, rfl, rfl⟩ := hrel
              have hlen : (p.take (k + 1)).length = k + 1 := by rw [List.length_take]; omega
              rw [hlen] at hj
              have hvb := hid (take_bound hk9 hp Ht.out (by rw [Hx.out]; exact HA.out))
              rcases Nat.eq_zero_or_pos j with rfl | hj0
              · generalize hV : valL (p.take (k + 1)) = V at hvb
                have HV := hid hV
                rw [List.drop_zero, hV]
                have hVt : valL (p.take k ++ [y]) = V := by rw [← Ht.out, hV]
                have hkl : (p.take k).length = k := by rw [List.length_take]; omega
                have Hk := hid hkp
                clear hV hlen
                by_cases h0 : x = 0 ∧ 0 < k
                · have hlb : (numL V).length ≤ k := by
                    have := num_len_bad (p.take k) y (by rw [Hx.out]; exact h0.1) (by intro e; rw [e] at hkl; simp at hkl; omega)
                    rw [hVt, hkl] at this
                    exact this
                  have hne : (((numL V).length : Int) == (k : Int) + 1) = false := by simp; omega
                  have H0 := hid h0
                  clear h0 hVt hkl hlb
                  go_wp2_with fail
                  refine (refnum_calls V hvb.out w).mono ?_
                  rintro e w1 ⟨v, rfl, ho, hb1⟩
                  obtain ⟨a1, c1, rfl, _, _⟩ := ho.bs
                  have Hb1 := hid hb1
                  clear ho hb1
                  go_wp2_with fail
                  go_ret3
                  unfold InkTakeTo
                  rw [rd_bad Hr'.out Hd.out (.inr (by rw [Hx.out]; have := H0.out; omega))]
                  exact ⟨rfl, Hb1.out⟩
                · have hlg : (numL V).length = k + 1 := by
                    have := (num_len_good (p.take k) y Ha.out (by rw [Hx.out]; omega) (by
                      by_cases hk0 : k = 0
                      · right; subst hk0; rfl
                      · left; rw [Hx.out]; omega)).1
                    rw [hVt, hkl] at this
                    exact this
                  have hne : (((numL V).length : Int) == (k : Int) + 1) = true := by simp; omega
                  have Hr2 := hid (rd_ret h10 Hr'.out Hd.out (by rw [Hx.out]; exact HA.out) (by rw [Hx.out]; omega) (by rw [Hx.out]; exact h0))
                  have hVx : valL (p.take k) + 128 ^ k * (y.toNat % 128) = V := by rw [← hVt, valL_snoc, hkl]
                  rw [hVx] at Hr2
                  clear h0 hVt hkl hlg hVx
                  go_wp2_with fail
                  refine (refnum_calls V hvb.out w).mono ?_
                  rintro e w1 ⟨v, rfl, ho, hb1⟩
                  obtain ⟨a1, c1, rfl, _, _⟩ := ho.bs
                  have Hb1 := hid hb1
                  clear ho hb1
                  go_wp2_with fail
                  go_quiet (fail)
                  obtain ⟨o', ho', e⟩ : ∃ o', (cap = k + 1 ∨ o' = off + (k + 1)) ∧ (if cap = k + 1 then some (⟨b, off, none⟩ : Addr) else some ⟨b, off + (k + 1), none⟩) = some ⟨b, o', none⟩ := by
                    by_cases hcap : cap = k + 1
                    · exact ⟨off, .inl hcap, by rw [if_pos hcap]⟩
                    · exact ⟨off + (k + 1), .inr rfl, by rw [if_neg hcap]⟩
                  rw [e]
                  go_wp2_with fail
                  go_ret3
                  unfold InkTakeTo
                  rw [Hr2.out]
                  refine ⟨⟨some ⟨b, o', none⟩, cap - (k + 1), by rw [List.length_drop]; rfl, ?_, ?_⟩, Hb1.out.trans ((below_drewN (Below.refl _ w1) nq).mono Hb1.out.size)⟩
                  · exact ((bs_read H.out k hp o' ho').below Hb1.out).below (below_drewN (Below.refl _ _) nq)
                  · intro q hq; cases hq; exact ⟨rfl, _, rfl, rfl⟩
              · obtain ⟨i, rfl⟩ : ∃ i, j = i + 1 := ⟨j - 1, by omega⟩
                have hi : i < p.length := by omega
                have hci := HC.out i hi
                have hzb := (p[i]).toNat_lt
                have hdl := hid (show (p.take (k + 1)).drop i = p[i] :: (p.take (k + 1)).drop (i + 1) by
                  rw [List.drop_eq_getElem_cons (by omega), List.getElem_take])
                have hle := valL_drop_le (p.take (k + 1)) i
                have h9 : i = 9 → (p[i]).toNat ≤ 1 := by
                  rintro rfl
                  have hk : k = 9 := by omega
                  subst hk
                  have e := Hd.out
                  rw [List.drop_eq_getElem_cons hp, List.cons.injEq] at e
                  rw [e.1, Hx.out]
                  have := HA.out
                  omega
                generalize p[i] = z at hci hzb hdl h9
                have hhn := horner _ i z hdl.out
                have hle' : valL ((p.take (k + 1)).drop (i + 1)) * 128 + z.toNat % 128 < 18446744073709551616 := by rw [← hhn]; exact Nat.lt_of_le_of_lt hle hvb.out
                have Hhn := hid hhn
                generalize hV : valL ((p.take (k + 1)).drop (i + 1)) = V at Hhn hle'
                have HV := hid hV
                try rw [hV]
                generalize hz : z.toNat = zn at hci hzb h9 hle' Hhn
                have Hz := hid hz
                have Hle := hid hle'
                have ei : (((i + 1 : Nat) : Int) - 1) = (i : Int) := by omega
                rw [ei]
                clear hz hV hhn hle hle' hlen ei hj0
                by_cases i9 : i = 9
                · have i9b : ((i : Int) == 9) = true := by simp; omega
                  have h9' : ¬ ((1 : Int) < (zn : Int)) := by have := h9 i9; omega
                  clear i9 h9
                  go_wp2_with fail
                  rw [wrap_horn V zn Hle.out]
                  have R1 : HornRel (p.take (k + 1)) (.int .u64 ((V * 128 + zn % 128 : Nat) : Int)) (.int .i64 ((i : Int) - 1)) := ⟨i, by rw [List.length_take]; omega, rfl, by rw [Hhn.out]⟩
                  refine ⟨?_, by simp [intOf] <;> omega⟩
                  first | exact R1 | ((repeat apply Exists.intro); refine ⟨R1, ?_⟩; and_intros <;> rfl)
                · have i9b : ((i : Int) == 9) = false := by simp; omega
                  clear i9 h9
                  go_wp2_with fail
                  rw [wrap_horn V zn Hle.out]
                  have R1 : HornRel (p.take (k + 1)) (.int .u64 ((V * 128 + zn % 128 : Nat) : Int)) (.int .i64 ((i : Int) - 1)) := ⟨i, by rw [List.length_take]; omega, rfl, by rw [Hhn.out]⟩
                  refine ⟨?_, by simp [intOf] <;> omega⟩
                  first | exact R1 | ((repeat apply Exists.intro); refine ⟨R1, ?_⟩; and_intros <;> rfl)
      · obtain rfl : k = p.length := by omega
        have hN : rd 0 p = none := by
          rcases Hr.out with ⟨_, h1⟩ | ⟨_, h1⟩
          · rw [h1, List.drop_length]; rfl
          · exact h1
        have HN := hid hN
        clear hN Hr
        go_wp2_with fail
        go_ret3
        unfold InkTakeTo
        rw [HN.out]
        exact ⟨rfl, Below.refl _ _⟩
    · obtain rfl : k = 10 := by omega
      have hN : rd 0 p = none := by
        rcases Hr.out with ⟨h9, _⟩ | ⟨_, h1⟩
        · omega
        · exact h1
      have HN := hid hN
      clear hN Hr
      go_wp2_with fail
      all_goals go_ret3
      all_goals unfold InkTakeTo
      all_goals rw [HN.out]
      all_goals exact ⟨rfl, Below.refl _ _⟩
end Go.Proofs.YtoapibbbooongaaDoor

/- The walks of layer 1: what an eye is asked, the code's and the document's. -/
namespace Go.Proofs.YtoapibbbooongaaDoor
open Go.RowKit Go.Quad _root_.Quad.Ink

/-- an eye's state: what is left; has it failed -/
abbrev St := List UInt8 × Bool

def numS (s : St) : Nat × St := if s.2 then (0, s) else numTo s.1
def failS : St := ([], true)
def intS (s : St) : Nat × St := if 2147483647 < (numS s).1 then (0, failS) else numS s
def boolS (s : St) : Bool × St := if 1 < (numS s).1 then (false, failS) else ((numS s).1 == 1, (numS s).2)
def textS (s : St) : List UInt8 × St :=
  if (numS s).2.2 then ([], (numS s).2) else if (numS s).2.1.length < (numS s).1 then ([], failS) else ((numS s).2.1.take (numS s).1, ((numS s).2.1.drop (numS s).1, false))

theorem rd_lt {p r : List UInt8} {n : Nat} (h : rd 0 p = some (n, r)) : n < 18446744073709551616 := by
  have key : ∀ (p : List UInt8) (i n : Nat) (r : List UInt8), i ≤ 9 → rd i p = some (n, r) → n * 128 ^ i < 18446744073709551616 := by
    intro p
    induction p with
    | nil => intro i n r _ h; simp [rd] at h
    | cons b q ih =>
      intro i n r hi h
      rw [rd, if_neg (by omega)] at h
      by_cases h9 : i = 9 ∧ 1 < b.toNat
      · rw [if_pos h9] at h; cases h
      · rw [if_neg h9] at h
        have h8 : ∀ j : Fin 9, 128 ^ j.val * 128 ≤ 9223372036854775808 := by decide
        by_cases h1 : b.toNat < 128
        · rw [if_pos h1] at h
          split at h
          · cases h
          · cases h
            by_cases h99 : i = 9
            · subst h99
              have : b.toNat ≤ 1 := by omega
              have e : (128 : Nat) ^ 9 = 9223372036854775808 := by decide
              rw [e]; omega
            · have h2 := h8 ⟨i, by omega⟩
              dsimp only at h2
              have h3 : b.toNat * 128 ^ i ≤ 127 * 128 ^ i := Nat.mul_le_mul_right _ (by omega)
              omega
        · rw [if_neg h1, Option.map_eq_some_iff] at h
          obtain ⟨⟨n', r'⟩, h2, h3⟩ := h
          cases h3
          have h99 : i ≠ 9 := by intro e; exact h9 ⟨e, by omega⟩
          have hn := ih (i + 1) n' r' (by omega) h2
          rw [Nat.pow_succ] at hn
          have h4 := h8 ⟨i, by omega⟩
          dsimp only at h4
          have h5 : (b.toNat % 128) * 128 ^ i ≤ 127 * 128 ^ i := Nat.mul_le_mul_right _ (by omega)
          have e1 : (b.toNat % 128 + 128 * n') * 128 ^ i = (b.toNat % 128) * 128 ^ i + n' * (128 ^ i * 128) := by
            rw [Nat.add_mul, Nat.mul_comm 128 n', Nat.mul_assoc, Nat.mul_comm 128 (128 ^ i)]
          have hdiv : 128 ^ i * 128 ∣ 18446744073709551616 := by
            have hd : ∀ j : Fin 9, 18446744073709551616 % (128 ^ j.val * 128) = 0 := by decide
            exact Nat.dvd_of_mod_eq_zero (hd ⟨i, by omega⟩)
          obtain ⟨c, hc⟩ := hdiv
          rw [e1]
          have h6 : n' < c := by
            have hpos : 0 < 128 ^ i * 128 := Nat.mul_pos (Nat.pow_pos (by decide)) (by decide)
            rw [hc, Nat.mul_comm n'] at hn
            exact Nat.lt_of_mul_lt_mul_left hn
          have h7 : n' * (128 ^ i * 128) + 128 ^ i * 128 ≤ 18446744073709551616 := by
            rw [hc]
            have : (128 ^ i * 128) * (n' + 1) ≤ (128 ^ i * 128) * c := Nat.mul_le_mul_left _ h6
            rw [Nat.mul_add, Nat.mul_one, Nat.mul_comm _ n'] at this
            exact this
          have hp : 0 < 128 ^ i := Nat.pow_pos (by decide)
          omega
  have := key p 0 n r (by omega) h
  simpa using this

theorem numS_lt (s : St) : (numS s).1 < 18446744073709551616 := by
  unfold numS
  split
  · simp
  · unfold numTo
    split
    · rename_i n r h; exact rd_lt h
    · simp

set_option maxHeartbeats 400000 in
theorem enum_calls (w : World) (B g : Nat) (s : St) (h : EyeAt w B g s.1 s.2) :
    Calls Tryd.prog 143 #[.pointer (some ⟨g, 0, none⟩)] w fun e w' =>
      e = .returned (.int .u64 ((numS s).1 : Int)) ∧ EyeAt w' B g (numS s).2.1 (numS s).2.2 ∧ Chg [g] w w' := by
  obtain ⟨p, bad⟩ := s
  cases bad
  · exact eyenum_calls w B g p h
  · have c1 : w.cell? ⟨g, 1, none⟩ = some (.bool true) := by
      obtain ⟨a, cap, h⟩ := h
      rw [h.own.cell]; rfl
    have H := hid h
    clear h
    go_enter Tryd.func143, Tryd.ntmps143
    go_wp2_with fail
    go_ret
    exact ⟨rfl, H.out, Chg.refl _ _⟩

/-- 'fail' at whatever state -/
theorem efail_calls (w : World) (B g : Nat) (p : List UInt8) (bad : Bool) (h : EyeAt w B g p bad) :
    Calls Tryd.prog 144 #[.pointer (some ⟨g, 0, none⟩)] w fun e w' => e = .returned (.int .u64 0) ∧ EyeAt w' B g [] true ∧ Chg [g] w w' := by
  obtain ⟨a, cap, h⟩ := h
  have c0 : w.cell? ⟨g, 0, none⟩ = some (.slice a p.length cap) := by rw [h.own.cell]; rfl
  have c1 : w.cell? ⟨g, 1, none⟩ = some (.bool bad) := by rw [h.own.cell]; rfl
  have f0 := h.own.free 0
  have f1 := h.own.free 1
  have H := hid h
  clear h
  go_enter Tryd.func144, Tryd.ntmps144
  go_wp2_with fail
  go_ret
  have hB := H.out.own.set 1 (.bool true)
  refine ⟨rfl, ⟨none, 0, ?_, BS.nil _, H.out.ge, by simp, by simp, by simp⟩, (chg_setCell w g 1 _).trans (chg_setCell _ g 0 _)⟩
  have := hB.set 0 (.slice none 0 0)
  simpa using this

theorem numS_len (s : St) : (numS s).2.1.length ≤ s.1.length := by
  unfold numS
  split
  · exact Nat.le_refl _
  · unfold numTo
    split
    · rename_i n r h
      obtain ⟨k, rfl, _⟩ := rd_behind h
      rw [List.length_drop]; omega
    · simp

/-- an eye goes on by n bytes -/
theorem IsEye.skip {w w' : World} {B g b off cap : Nat} {p : List UInt8} {bad : Bool} (h : IsEye w B g (some ⟨b, off, none⟩) cap p bad) (hb : Below w.heap.size w w') (n : Nat) (hn : n ≤ p.length) (o' : Nat) (ho : cap = n ∨ o' = off + n) :
    EyeAt (w'.setCell ⟨g, 0, none⟩ (.slice (some ⟨b, o', none⟩) (p.length - n) (cap - n))) B g (p.drop n) bad := by
  have h' : IsEye w' B g (some ⟨b, off, none⟩) cap p bad := ⟨h.own.below hb, h.row.below hb, h.ge, h.up, h.lt, h.form⟩
  have hf := h.row.fit'
  have hm := CS.max h.row
  have hl : (p.drop n).length = p.length - n := List.length_drop
  have hB : BS w' (some ⟨b, o', none⟩) (cap - n) (p.drop n) := by
    by_cases h0 : n = p.length
    · have : p.drop n = [] := List.eq_nil_of_length_eq_zero (by omega)
      rw [this]
      exact ⟨by simp, by omega, by simp, .inl (by simp)⟩
    · rcases ho with rfl | rfl
      · omega
      · obtain ⟨b', off', e, hc⟩ := BS.at h'.row (by omega)
        cases e
        refine BS.of_row (len := p.length - n) hl (by omega) (by omega) fun i hi => ?_
        have := hc (n + i) (by omega)
        rw [show off + n + i = off + (n + i) from by omega, this]
        simp
  have := h'.put hB (fun x hx => by cases hx; exact h.up ⟨b, off, none⟩ rfl) (fun x hx => by cases hx; exact h.lt ⟨b, off, none⟩ rfl) (fun x hx => by cases hx; rfl)
  rw [hl] at this
  exact ⟨_, _, this⟩

set_option maxHeartbeats 1000000 in
theorem etextL_calls (w : World) (B g : Nat) (s : St) (h : EyeAt w B g s.1 s.2) (hl : s.1.length ≤ 1000000) (_hB : B ≤ w.heap.size) :
    Calls Tryd.prog 115 #[.pointer (some ⟨g, 0, none⟩)] w fun e w' =>
      ∃ a c, e = .returned (.slice a (textS s).1.length c) ∧ BS w' a c (textS s).1 ∧ EyeAt w' B g (textS s).2.1 (textS s).2.2 ∧ Chg [g] w w' ∧ (∀ x, a = some x → w.heap.size ≤ x.block ∧ x.block < w'.heap.size) := by
  have en := enum_calls w B g s h
  have hlt := numS_lt s
  have hlen := numS_len s
  unfold textS
  generalize numS s = q at en hlt hlen ⊢
  obtain ⟨n, p, bad⟩ := q
  dsimp only at en hlt hlen ⊢
  have hp : p.length ≤ 1000000 := by omega
  have En := hid en
  clear en h hl hlen
  cases bad
  · rw [if_neg (by decide)]
    by_cases hn : p.length < n
    · rw [if_pos hn]
      have hn' : (p.length : Int) < (n : Int) := by omega
      have hp' : (p.length : Int) ≤ 1000000 := by omega
      clear hn
      go_enter Tryd.func115, Tryd.ntmps115
      go_wp2_with fail
      refine En.out.mono ?_
      rintro e w1 ⟨rfl, h1, hc1⟩
      have H1 := hid h1
      have C1 := hid hc1
      obtain ⟨a, cap, hI⟩ := h1
      have c0 : w1.cell? ⟨g, 0, none⟩ = some (.slice a p.length cap) := by rw [hI.own.cell]; rfl
      have c1 : w1.cell? ⟨g, 1, none⟩ = some (.bool false) := by rw [hI.own.cell]; rfl
      clear hI hc1
      go_wp2_with fail
      refine (efail_calls w1 B g p false H1.out).mono ?_
      rintro e w2 ⟨rfl, h2, hc2⟩
      have H2 := hid h2
      have C2 := hid hc2
      clear h2 hc2
      go_wp2_with fail
      go_ret
      exact ⟨none, 0, rfl, BS.nil _, H2.out, C1.out.trans C2.out, by simp⟩
    · rw [if_neg hn]
      have hn' : ¬ ((p.length : Int) < (n : Int)) := by omega
      have hp' : (p.length : Int) ≤ 1000000 := by omega
      go_enter Tryd.func115, Tryd.ntmps115
      go_wp2_with fail
      refine En.out.mono ?_
      rintro e w1 ⟨rfl, h1, hc1⟩
      have C1 := hid hc1
      obtain ⟨a, cap, hI⟩ := h1
      have hf := hI.row.fit'
      have hmx := CS.max hI.row
      have c0 : w1.cell? ⟨g, 0, none⟩ = some (.slice a p.length cap) := by rw [hI.own.cell]; rfl
      have c1 : w1.cell? ⟨g, 1, none⟩ = some (.bool false) := by rw [hI.own.cell]; rfl
      have HI := hid hI
      have hmx' : (cap : Int) ≤ 9223372036854775807 := by unfold maxLen at hmx; omega
      have hfn : n ≤ cap := by omega
      clear hI hc1 hmx
      go_wp2_with fail
      have hlt' : (p.take n).length = n := by rw [List.length_take]; omega
      have cl := clone_calls a cap (p.take n) w1 (HI.out.row.take n) (by omega)
      rw [hlt'] at cl
      refine cl.mono ?_
      rintro e w2 ⟨v, rfl, ho, hb2⟩
      obtain ⟨a2, c2, rfl, hs2, hx2⟩ := ho.bs
      have S2 := hid hs2
      have X2 := hid hx2
      have HI2 := hid (show IsEye w2 B g a cap p false from ⟨HI.out.own.below hb2, HI.out.row.below hb2, HI.out.ge, HI.out.up, HI.out.lt, HI.out.form⟩)
      have Hb2 := hid hb2
      have Hlt := hid hlt'
      have glt := hid HI.out.own.lt
      have S3 : Kept (∀ v, BS (w2.setCell ⟨g, 0, none⟩ v) a2 c2 (p.take n)) := ⟨fun v => cs_chg S2.out (chg_setCell w2 g 0 v) (fun x hx hm => by simp at hm; have := (X2.out x hx).2.2.1; have := glt.out; omega)⟩
      have C3 : Kept (∀ v, Chg [g] w (w2.setCell ⟨g, 0, none⟩ v)) := ⟨fun v => (C1.out.trans (Chg.of_below _ Hb2.out)).trans (chg_setCell w2 g 0 v)⟩
      clear cl ho hs2 hx2 hb2 c0 c1 hlt'
      have c0 : w2.cell? ⟨g, 0, none⟩ = some (.slice a p.length cap) := by rw [HI2.out.own.cell]; rfl
      have f0 := HI2.out.own.free 0
      cases a with
      | none =>
        have hc0 := CS.none HI2.out.row rfl
        subst hc0
        have hp0 : p = [] := List.eq_nil_of_length_eq_zero (by omega)
        subst hp0
        have hn0 : n = 0 := by omega
        subst hn0
        go_wp2_with fail
        go_ret
        exact ⟨a2, c2, rfl, S3.out _, ⟨none, 0, HI2.out.put (BS.nil w2) (by simp) (by simp) (by simp)⟩, C3.out _, fun x hx => ⟨Nat.le_trans C1.out.size (X2.out x hx).2.2.1, Nat.lt_of_lt_of_le (X2.out x hx).2.2.2 (chg_setCell w2 g 0 _).size⟩⟩
      | some x =>
        obtain ⟨b, off, spot⟩ := x
        have hsp := HI2.out.form _ rfl
        dsimp only at hsp
        subst hsp
        have hmin : min n p.length = n := by omega
        have Hmin := hid hmin
        clear hmin
        go_wp2_with fail
        all_goals go_ret
        all_goals refine ⟨a2, c2, rfl, S3.out _, ?_, C3.out _, fun x hx => ⟨Nat.le_trans C1.out.size (X2.out x hx).2.2.1, Nat.lt_of_lt_of_le (X2.out x hx).2.2.2 (chg_setCell w2 g 0 _).size⟩⟩
        · have hcn : cap = n := by assumption
          have := HI2.out.skip (Below.refl _ w2) n (by omega) off (.inl hcn)
          rw [show cap - n = 0 from by omega] at this
          exact this
        · exact HI2.out.skip (Below.refl _ w2) n (by omega) _ (.inr rfl)
  · rw [if_pos rfl]
    go_enter Tryd.func115, Tryd.ntmps115
    go_wp2_with fail
    refine En.out.mono ?_
    rintro e w1 ⟨rfl, h1, hc1⟩
    have H1 := hid h1
    have C1 := hid hc1
    obtain ⟨a, cap, hI⟩ := h1
    have c1 : w1.cell? ⟨g, 1, none⟩ = some (.bool true) := by rw [hI.own.cell]; rfl
    clear hI hc1
    go_wp2_with fail
    go_ret
    exact ⟨none, 0, rfl, BS.nil _, H1.out, C1.out, by simp⟩
theorem etext_calls (w : World) (B g : Nat) (s : St) (h : EyeAt w B g s.1 s.2) (hl : s.1.length ≤ 1000000) (_hB : B ≤ w.heap.size) :
    Calls Tryd.prog 115 #[.pointer (some ⟨g, 0, none⟩)] w fun e w' =>
      ∃ a c, e = .returned (.slice a (textS s).1.length c) ∧ BS w' a c (textS s).1 ∧ EyeAt w' B g (textS s).2.1 (textS s).2.2 ∧ Chg [g] w w' ∧ (∀ x, a = some x → w.heap.size ≤ x.block) := (etextL_calls w B g s h hl _hB).mono fun _ _ ⟨a, c, h1, h2, h3, h4, h5⟩ => ⟨a, c, h1, h2, h3, h4, fun x hx => (h5 x hx).1⟩
end Go.Proofs.YtoapibbbooongaaDoor

/- The walks of layer 1: the document's eye. -/
namespace Go.Proofs.YtoapibbbooongaaDoor
open Go.RowKit Go.Quad _root_.Quad.Ink


/-- where an eye's bytes lie: in the block A, or nowhere -/
def Loc (g A : Nat) (a : Option Addr) (p : List UInt8) : Prop := p = [] ∨ (A ≠ g ∧ ∃ off, a = some ⟨A, off, none⟩)

theorem Loc.row {S : List Nat} {w w' : World} {g A : Nat} {a : Option Addr} {cap : Nat} {p : List UInt8} (h : Loc g A a p) (hb : BS w a cap p) (hc : Chg S w w') (hA : A ≠ g → A ∉ S) : BS w' a cap p := by
  rcases h with rfl | ⟨hne, off, rfl⟩
  · exact bs_void hb
  · exact cs_chg hb hc (fun x hx => by cases hx; exact hA hne)

theorem Loc.take {g A : Nat} {a : Option Addr} {p : List UInt8} (h : Loc g A a p) (n : Nat) : Loc g A a (p.take n) := Or.imp (fun e => by rw [e]; simp) id h

/-- the document's eye in memory: at g, its bytes at a -/
structure IsREye (w : World) (g A : Nat) (a : Option Addr) (cap : Nat) (p : List UInt8) (bad : Bool) : Prop where
  own : Blk w g [.slice a p.length cap, .bool bad] 180
  row : BS w a cap p
  loc : Loc g A a p

def REyeAt (w : World) (g A : Nat) (p : List UInt8) (bad : Bool) : Prop := ∃ a cap, IsREye w g A a cap p bad

theorem REyeAt.below {w w' : World} {g A : Nat} {p : List UInt8} {bad : Bool} (h : REyeAt w g A p bad) (hb : Below w.heap.size w w') : REyeAt w' g A p bad := by
  obtain ⟨a, cap, h⟩ := h
  exact ⟨a, cap, h.own.below hb, h.row.below hb, h.loc⟩

theorem IsREye.put1 {w : World} {g A : Nat} {a a' : Option Addr} {cap cap' : Nat} {p p' : List UInt8} {bad : Bool} (h : IsREye w g A a cap p bad) (hb : BS w a' cap' p') (hl : Loc g A a' p') :
    IsREye (w.setCell ⟨g, 0, none⟩ (.slice a' p'.length cap')) g A a' cap' p' bad := by
  have c1 := chg_setCell w g 0 (.slice a' p'.length cap')
  refine ⟨?_, hl.row hb c1 (by simp), hl⟩
  have := h.own.set 0 (.slice a' p'.length cap')
  simpa using this

theorem IsREye.put {w : World} {g A : Nat} {a a' : Option Addr} {cap cap' : Nat} {p p' : List UInt8} {bad bad' : Bool} (h : IsREye w g A a cap p bad) (hb : BS w a' cap' p') (hl : Loc g A a' p') :
    REyeAt ((w.setCell ⟨g, 0, none⟩ (.slice a' p'.length cap')).setCell ⟨g, 1, none⟩ (.bool bad')) g A p' bad' := by
  have h1 := h.put1 hb hl
  have c2 := chg_setCell (w.setCell ⟨g, 0, none⟩ (.slice a' p'.length cap')) g 1 (.bool bad')
  refine ⟨a', cap', ?_, hl.row h1.row c2 (by simp), hl⟩
  have := h1.own.set 1 (.bool bad')
  simpa using this

set_option maxHeartbeats 1000000 in
theorem rnum_calls (w : World) (g A : Nat) (s : St) (h : REyeAt w g A s.1 s.2) :
    Calls Tryd.prog 117 #[.pointer (some ⟨g, 0, none⟩)] w fun e w' =>
      e = .returned (.int .u64 ((numS s).1 : Int)) ∧ REyeAt w' g A (numS s).2.1 (numS s).2.2 ∧ Chg [g] w w' := by
  obtain ⟨p, bad⟩ := s
  obtain ⟨a, cap, h⟩ := h
  have c0 : w.cell? ⟨g, 0, none⟩ = some (.slice a p.length cap) := by rw [h.own.cell]; rfl
  have c1 : w.cell? ⟨g, 1, none⟩ = some (.bool bad) := by rw [h.own.cell]; rfl
  have H := hid h
  clear h
  cases bad
  · go_enter Tryd.func117, Tryd.ntmps117
    go_wp2_with fail
    refine (inktake_calls a cap p w H.out.row).mono ?_
    intro e w1 ht
    unfold InkTakeTo at ht
    cases hrd : rd 0 p with
    | none =>
      rw [hrd] at ht
      have N := hid (show numS (p, false) = (0, [], true) by simp only [numS, numTo, hrd, Bool.false_eq_true, if_false])
      obtain ⟨rfl, hb⟩ := ht
      have Hb := hid hb
      have H1 := hid (show IsREye w1 g A a cap p false from ⟨H.out.own.below hb, H.out.row.below hb, H.out.loc⟩)
      clear hb hrd c0 c1
      have c0 : w1.cell? ⟨g, 0, none⟩ = some (.slice a p.length cap) := by rw [H1.out.own.cell]; rfl
      have c1 : w1.cell? ⟨g, 1, none⟩ = some (.bool false) := by rw [H1.out.own.cell]; rfl
      have f0 := H1.out.own.free 0
      have f1 := H1.out.own.free 1
      go_wp2_with fail
      go_ret
      rw [N.out]
      refine ⟨rfl, ?_, ((Chg.of_below _ Hb.out).trans (chg_setCell _ g 0 _)).trans (chg_setCell _ g 1 _)⟩
      exact H1.out.put (bad' := true) (BS.nil w1) (.inl rfl)
    | some x =>
      obtain ⟨n, r⟩ := x
      rw [hrd] at ht
      have N := hid (show numS (p, false) = (n, r, false) by simp only [numS, numTo, hrd, Bool.false_eq_true, if_false])
      obtain ⟨⟨a', c', rfl, hs, hx⟩, hb⟩ := ht
      have Hb := hid hb
      have S := hid hs
      have X := hid hx
      have H1 := hid (show IsREye w1 g A a cap p false from ⟨H.out.own.below hb, H.out.row.below hb, H.out.loc⟩)
      clear hb hrd c0 c1 hs hx
      have c0 : w1.cell? ⟨g, 0, none⟩ = some (.slice a p.length cap) := by rw [H1.out.own.cell]; rfl
      have c1 : w1.cell? ⟨g, 1, none⟩ = some (.bool false) := by rw [H1.out.own.cell]; rfl
      have f0 := H1.out.own.free 0
      have f1 := H1.out.own.free 1
      go_wp2_with fail
      go_ret
      rw [N.out]
      refine ⟨rfl, ?_, ((Chg.of_below _ Hb.out).trans (chg_setCell _ g 0 _)).trans (chg_setCell _ g 1 _)⟩
      refine H1.out.put (bad' := false) S.out ?_
      cases a' with
      | none => exact .inl (List.eq_nil_of_length_eq_zero (by have := S.out.fit'; have := CS.none S.out rfl; omega))
      | some x =>
        obtain ⟨b, off, spot⟩ := x
        obtain ⟨hsp, y, hy, hxy⟩ := X.out _ rfl
        dsimp only at hsp hxy
        subst hsp hxy
        rcases H1.out.loc with rfl | ⟨hne, o2, e2⟩
        · exact absurd N.out (by simp [numS, numTo, rd])
        · rw [e2] at hy
          cases hy
          exact .inr ⟨hne, off, rfl⟩
  · go_enter Tryd.func117, Tryd.ntmps117
    go_wp2_with fail
    go_ret
    exact ⟨rfl, ⟨a, cap, H.out⟩, Chg.refl _ _⟩

end Go.Proofs.YtoapibbbooongaaDoor

/- The walks of layer 1: the document's eye: its end, its texts. -/
namespace Go.Proofs.YtoapibbbooongaaDoor
open Go.RowKit Go.Quad _root_.Quad.Ink

/-- the document's eye goes on by n bytes -/
theorem IsREye.skip {w : World} {g A off cap : Nat} {p : List UInt8} {bad : Bool} (hg : A ≠ g) (h : IsREye w g A (some ⟨A, off, none⟩) cap p bad) (n : Nat) (hn : n ≤ p.length) (o' : Nat) (ho : cap = n ∨ o' = off + n) :
    REyeAt (w.setCell ⟨g, 0, none⟩ (.slice (some ⟨A, o', none⟩) (p.length - n) (cap - n))) g A (p.drop n) bad := by
  have hf := h.row.fit'
  have hm := CS.max h.row
  have hl : (p.drop n).length = p.length - n := List.length_drop
  have hB : BS w (some ⟨A, o', none⟩) (cap - n) (p.drop n) := by
    by_cases h0 : n = p.length
    · have : p.drop n = [] := List.eq_nil_of_length_eq_zero (by omega)
      rw [this]
      exact ⟨by simp, by omega, by simp, .inl (by simp)⟩
    · rcases ho with rfl | rfl
      · omega
      · obtain ⟨b', off', e, hc⟩ := BS.at h.row (by omega)
        cases e
        refine BS.of_row (len := p.length - n) hl (by omega) (by omega) fun i hi => ?_
        have := hc (n + i) (by omega)
        rw [show off + n + i = off + (n + i) from by omega, this]
        simp
  have := h.put1 (a' := some ⟨A, o', none⟩) hB (.inr ⟨hg, _, rfl⟩)
  rw [hl] at this
  exact ⟨_, _, this⟩

set_option maxHeartbeats 1000000 in
theorem rtext_calls (w : World) (g A : Nat) (s : St) (h : REyeAt w g A s.1 s.2) (hl : s.1.length ≤ 1000000) :
    Calls Tryd.prog 98 #[.pointer (some ⟨g, 0, none⟩)] w fun e w' =>
      ∃ a c, e = .returned (.slice a (textS s).1.length c) ∧ BS w' a c (textS s).1 ∧ REyeAt w' g A (textS s).2.1 (textS s).2.2 ∧ Chg [g] w w' := by
  have en := rnum_calls w g A s h
  have hlt := numS_lt s
  have hlen := numS_len s
  unfold textS
  generalize numS s = q at en hlt hlen ⊢
  obtain ⟨n, p, bad⟩ := q
  dsimp only at en hlt hlen ⊢
  have hp : p.length ≤ 1000000 := by omega
  have En := hid en
  clear en h hl hlen
  cases bad
  · rw [if_neg (by decide)]
    by_cases hn : p.length < n
    · rw [if_pos hn]
      have hn' : (p.length : Int) < (n : Int) := by omega
      have hp' : (p.length : Int) ≤ 1000000 := by omega
      clear hn
      go_enter Tryd.func98, Tryd.ntmps98
      go_wp2_with fail
      refine En.out.mono ?_
      rintro e w1 ⟨rfl, h1, hc1⟩
      have C1 := hid hc1
      obtain ⟨a, cap, hI⟩ := h1
      have H1 := hid hI
      have c0 : w1.cell? ⟨g, 0, none⟩ = some (.slice a p.length cap) := by rw [hI.own.cell]; rfl
      have c1 : w1.cell? ⟨g, 1, none⟩ = some (.bool false) := by rw [hI.own.cell]; rfl
      have f0 := hI.own.free 0
      have f1 := hI.own.free 1
      clear hI hc1
      go_wp2_with fail
      go_ret
      exact ⟨none, 0, rfl, BS.nil _, H1.out.put (bad' := true) (BS.nil w1) (.inl rfl), (C1.out.trans (chg_setCell _ g 0 _)).trans (chg_setCell _ g 1 _)⟩
    · rw [if_neg hn]
      have hn' : ¬ ((p.length : Int) < (n : Int)) := by omega
      have hp' : (p.length : Int) ≤ 1000000 := by omega
      go_enter Tryd.func98, Tryd.ntmps98
      go_wp2_with fail
      refine En.out.mono ?_
      rintro e w1 ⟨rfl, h1, hc1⟩
      have C1 := hid hc1
      obtain ⟨a, cap, hI⟩ := h1
      have hf := hI.row.fit'
      have hmx := CS.max hI.row
      have c0 : w1.cell? ⟨g, 0, none⟩ = some (.slice a p.length cap) := by rw [hI.own.cell]; rfl
      have c1 : w1.cell? ⟨g, 1, none⟩ = some (.bool false) := by rw [hI.own.cell]; rfl
      have f0 := hI.own.free 0
      have HI := hid hI
      have hmx' : (cap : Int) ≤ 9223372036854775807 := by unfold maxLen at hmx; omega
      have hfn : n ≤ cap := by omega
      have ht : (p.take n).length = n := by rw [List.length_take]; omega
      have Ht := hid ht
      clear hI hc1 hmx ht
      have key : Kept (∀ v, BS ((w1.setCell ⟨g, 0, none⟩ v).alloc (.cells #[] 5)) a cap (p.take n)) := ⟨fun v =>
        ((HI.out.loc.take n).row (HI.out.row.take n) (chg_setCell w1 g 0 v) (by simp)).below (below_alloc _ _)⟩
      have own0 : Kept (∀ v, OB ((w1.setCell ⟨g, 0, none⟩ v).alloc (.cells #[] 5)) w1.heap.size 5 (.slice (some ⟨w1.heap.size, 0, none⟩) 0 0) []) := ⟨fun v => by
        have := OB.empty (w1.setCell ⟨g, 0, none⟩ v)
        have e : (w1.setCell ⟨g, 0, none⟩ v).heap.size = w1.heap.size := by simp [World.setCell]
        rw [e] at this
        exact this⟩
      have siz : Kept (∀ v, w1.heap.size ≤ ((w1.setCell ⟨g, 0, none⟩ v).alloc (.cells #[] 5)).heap.size) := ⟨fun v => by
        have := (below_alloc (w1.setCell ⟨g, 0, none⟩ v) (.cells #[] 5)).size
        have e : (w1.setCell ⟨g, 0, none⟩ v).heap.size = w1.heap.size := by simp [World.setCell]
        rw [e] at this
        exact this⟩
      have fin : Kept (∀ v v' w', OB w' w1.heap.size 5 v' (p.take n) → Below w1.heap.size ((w1.setCell ⟨g, 0, none⟩ v).alloc (.cells #[] 5)) w' → REyeAt (w1.setCell ⟨g, 0, none⟩ v) g A (p.drop n) false →
          ∃ a c, v' = .slice a (p.take n).length c ∧ BS w' a c (p.take n) ∧ REyeAt w' g A (p.drop n) false ∧ Chg [g] w w') := ⟨fun v v' w' ho hb hR => by
        obtain ⟨a2, c2, e2, hs2, _⟩ := ho.bs
        have e : (w1.setCell ⟨g, 0, none⟩ v).heap.size = w1.heap.size := by simp [World.setCell]
        have hb2 : Below (w1.setCell ⟨g, 0, none⟩ v).heap.size (w1.setCell ⟨g, 0, none⟩ v) w' := by
          refine (below_alloc (w1.setCell ⟨g, 0, none⟩ v) (.cells #[] 5)).trans ?_
          rw [e]; exact hb
        exact ⟨a2, c2, e2, hs2, hR.below hb2, (C1.out.trans (chg_setCell w1 g 0 v)).trans (Chg.of_below _ hb2)⟩⟩
      rcases HI.out.loc with rfl | ⟨hne, off, rfl⟩
      · obtain rfl : n = 0 := by simpa using hn
        have hb0 := HI.out.row
        cases a with
        | none =>
          obtain rfl := CS.none hb0 rfl
          have hR : Kept (REyeAt (w1.setCell ⟨g, 0, none⟩ (.slice none 0 0)) g A [] false) := ⟨⟨_, _, HI.out.put1 (BS.nil _) (.inl rfl)⟩⟩
          go_wp2_with fail
          go_ret
          obtain ⟨a2, c2, e2, h2, h3, h4⟩ := fin.out _ _ _ (own0.out (.slice none 0 0)) (Below.refl _ _) hR.out
          exact ⟨a2, c2, congrArg Ending.returned e2, h2, h3, h4⟩
        | some x =>
          obtain ⟨b, off, spot⟩ := x
          have hR : Kept (REyeAt (w1.setCell ⟨g, 0, none⟩ (.slice (some ⟨b, off, spot⟩) 0 cap)) g A [] false) := ⟨⟨_, _, HI.out.put1 hb0 (.inl rfl)⟩⟩
          have Hb0 := hid hb0
          clear hb0
          go_wp2_with (at_builtin; refine wpList_append_b (.tmp 40) (.tmp 41) _ rfl rfl _ 5 info_u8 under_bytes _ _ (own0.out _) rfl (key.out _) (by rw [Ht.out]; rfl) (by rw [Ht.out]; simp) (siz.out _) ?_; intro v5 w5 hown5 hg5 hb5 _)
          go_ret
          rw [List.nil_append] at hown5
          obtain ⟨a2, c2, e2, h2, h3, h4⟩ := fin.out _ _ _ hown5 hb5 hR.out
          exact ⟨a2, c2, by rw [e2]; simp, h2, h3, h4⟩
      · have Hne := hid hne
        clear hne
        have hR1 : cap = n → Kept (REyeAt (w1.setCell ⟨g, 0, none⟩ (.slice (some ⟨A, off, none⟩) (p.length - n) 0)) g A (p.drop n) false) := fun h => ⟨by
          have := IsREye.skip Hne.out HI.out n (by omega) off (.inl h)
          rw [show cap - n = 0 from by omega] at this
          exact this⟩
        have hR2 : Kept (REyeAt (w1.setCell ⟨g, 0, none⟩ (.slice (some ⟨A, off + n, none⟩) (p.length - n) (cap - n))) g A (p.drop n) false) := ⟨IsREye.skip Hne.out HI.out n (by omega) _ (.inr rfl)⟩
        have hRi : Kept (REyeAt (w1.setCell ⟨g, 0, none⟩ (.slice (if cap = n then some ⟨A, off, none⟩ else some ⟨A, off + n, none⟩) (p.length - n) (cap - n))) g A (p.drop n) false) := ⟨by
          by_cases h : cap = n
          · rw [if_pos h, show cap - n = 0 from by omega]; exact (hR1 h).out
          · rw [if_neg h]; exact hR2.out⟩
        clear hR1 hR2
        by_cases hn0 : n = 0
        · subst hn0
          have hR0 : Kept (REyeAt (w1.setCell ⟨g, 0, none⟩ (.slice (some ⟨A, off, none⟩) p.length cap)) g A (p.drop 0) false) := ⟨IsREye.skip Hne.out HI.out 0 (by omega) off (.inr rfl)⟩
          go_wp2_with fail
          go_ret
          obtain ⟨a2, c2, e2, h2, h3, h4⟩ := fin.out _ _ _ (own0.out _) (Below.refl _ _) hR0.out
          exact ⟨a2, c2, congrArg Ending.returned e2, h2, h3, h4⟩
        · go_wp2_with (at_builtin; refine wpList_append_b (.tmp 40) (.tmp 41) _ rfl rfl _ 5 info_u8 under_bytes _ _ (own0.out _) rfl (key.out _) (by rw [Ht.out]; rfl) (by rw [Ht.out]; simp; omega) (siz.out _) ?_; intro v5 w5 hown5 hg5 hb5 _)
          all_goals
            go_ret
            rw [List.nil_append] at hown5
            obtain ⟨a2, c2, e2, h2, h3, h4⟩ := fin.out _ _ _ hown5 hb5 hRi.out
            exact ⟨a2, c2, by rw [e2]; simp, h2, h3, h4⟩
  · rw [if_pos rfl]
    go_enter Tryd.func98, Tryd.ntmps98
    go_wp2_with fail
    refine En.out.mono ?_
    rintro e w1 ⟨rfl, h1, hc1⟩
    have H1 := hid h1
    have C1 := hid hc1
    obtain ⟨a, cap, hI⟩ := h1
    have c1 : w1.cell? ⟨g, 1, none⟩ = some (.bool true) := by rw [hI.own.cell]; rfl
    clear hI hc1
    go_wp2_with fail
    go_ret
    exact ⟨none, 0, rfl, BS.nil _, H1.out, C1.out⟩
end Go.Proofs.YtoapibbbooongaaDoor

/- The walks of layer 1: the document's eye: its texts, in memory of their own. -/
namespace Go.Proofs.YtoapibbbooongaaDoor
open Go.RowKit Go.Quad _root_.Quad.Ink

/-- an address, if there is one, in memory made since -/
def NewAt (B : Nat) (w : World) (a : Option Addr) : Prop := ∀ x, a = some x → B ≤ x.block ∧ x.block < w.heap.size
theorem NewAt.none (B : Nat) (w : World) : NewAt B w none := by intro x hx; cases hx
theorem NewAt.mono {B B' : Nat} {w w' : World} {a : Option Addr} (h : NewAt B w a) (hB : B' ≤ B) (hs : w.heap.size ≤ w'.heap.size) : NewAt B' w' a := fun x hx => ⟨Nat.le_trans hB (h x hx).1, Nat.lt_of_lt_of_le (h x hx).2 hs⟩

set_option maxHeartbeats 1000000 in
theorem rtext2_calls (w : World) (g A : Nat) (s : St) (h : REyeAt w g A s.1 s.2) (hl : s.1.length ≤ 1000000) :
    Calls Tryd.prog 98 #[.pointer (some ⟨g, 0, none⟩)] w fun e w' =>
      ∃ a c, e = .returned (.slice a (textS s).1.length c) ∧ BS w' a c (textS s).1 ∧ REyeAt w' g A (textS s).2.1 (textS s).2.2 ∧ Chg [g] w w' ∧ NewAt w.heap.size w' a := by
  have en := rnum_calls w g A s h
  have hlt := numS_lt s
  have hlen := numS_len s
  unfold textS
  generalize numS s = q at en hlt hlen ⊢
  obtain ⟨n, p, bad⟩ := q
  dsimp only at en hlt hlen ⊢
  have hp : p.length ≤ 1000000 := by omega
  have En := hid en
  clear en h hl hlen
  cases bad
  · rw [if_neg (by decide)]
    by_cases hn : p.length < n
    · rw [if_pos hn]
      have hn' : (p.length : Int) < (n : Int) := by omega
      have hp' : (p.length : Int) ≤ 1000000 := by omega
      clear hn
      go_enter Tryd.func98, Tryd.ntmps98
      go_wp2_with fail
      refine En.out.mono ?_
      rintro e w1 ⟨rfl, h1, hc1⟩
      have C1 := hid hc1
      obtain ⟨a, cap, hI⟩ := h1
      have H1 := hid hI
      have c0 : w1.cell? ⟨g, 0, none⟩ = some (.slice a p.length cap) := by rw [hI.own.cell]; rfl
      have c1 : w1.cell? ⟨g, 1, none⟩ = some (.bool false) := by rw [hI.own.cell]; rfl
      have f0 := hI.own.free 0
      have f1 := hI.own.free 1
      clear hI hc1
      go_wp2_with fail
      go_ret
      exact ⟨none, 0, rfl, BS.nil _, H1.out.put (bad' := true) (BS.nil w1) (.inl rfl), (C1.out.trans (chg_setCell _ g 0 _)).trans (chg_setCell _ g 1 _), NewAt.none _ _⟩
    · rw [if_neg hn]
      have hn' : ¬ ((p.length : Int) < (n : Int)) := by omega
      have hp' : (p.length : Int) ≤ 1000000 := by omega
      go_enter Tryd.func98, Tryd.ntmps98
      go_wp2_with fail
      refine En.out.mono ?_
      rintro e w1 ⟨rfl, h1, hc1⟩
      have C1 := hid hc1
      obtain ⟨a, cap, hI⟩ := h1
      have hf := hI.row.fit'
      have hmx := CS.max hI.row
      have c0 : w1.cell? ⟨g, 0, none⟩ = some (.slice a p.length cap) := by rw [hI.own.cell]; rfl
      have c1 : w1.cell? ⟨g, 1, none⟩ = some (.bool false) := by rw [hI.own.cell]; rfl
      have f0 := hI.own.free 0
      have HI := hid hI
      have hmx' : (cap : Int) ≤ 9223372036854775807 := by unfold maxLen at hmx; omega
      have hfn : n ≤ cap := by omega
      have ht : (p.take n).length = n := by rw [List.length_take]; omega
      have Ht := hid ht
      clear hI hc1 hmx ht
      have key : Kept (∀ v, BS ((w1.setCell ⟨g, 0, none⟩ v).alloc (.cells #[] 5)) a cap (p.take n)) := ⟨fun v =>
        ((HI.out.loc.take n).row (HI.out.row.take n) (chg_setCell w1 g 0 v) (by simp)).below (below_alloc _ _)⟩
      have own0 : Kept (∀ v, OB ((w1.setCell ⟨g, 0, none⟩ v).alloc (.cells #[] 5)) w1.heap.size 5 (.slice (some ⟨w1.heap.size, 0, none⟩) 0 0) []) := ⟨fun v => by
        have := OB.empty (w1.setCell ⟨g, 0, none⟩ v)
        have e : (w1.setCell ⟨g, 0, none⟩ v).heap.size = w1.heap.size := by simp [World.setCell]
        rw [e] at this
        exact this⟩
      have siz : Kept (∀ v, w1.heap.size ≤ ((w1.setCell ⟨g, 0, none⟩ v).alloc (.cells #[] 5)).heap.size) := ⟨fun v => by
        have := (below_alloc (w1.setCell ⟨g, 0, none⟩ v) (.cells #[] 5)).size
        have e : (w1.setCell ⟨g, 0, none⟩ v).heap.size = w1.heap.size := by simp [World.setCell]
        rw [e] at this
        exact this⟩
      have fin : Kept (∀ v v' w', OB w' w1.heap.size 5 v' (p.take n) → Below w1.heap.size ((w1.setCell ⟨g, 0, none⟩ v).alloc (.cells #[] 5)) w' → REyeAt (w1.setCell ⟨g, 0, none⟩ v) g A (p.drop n) false →
          ∃ a c, v' = .slice a (p.take n).length c ∧ BS w' a c (p.take n) ∧ REyeAt w' g A (p.drop n) false ∧ Chg [g] w w' ∧ NewAt w.heap.size w' a) := ⟨fun v v' w' ho hb hR => by
        obtain ⟨a2, c2, e2, hs2, hx2⟩ := ho.bs
        have e : (w1.setCell ⟨g, 0, none⟩ v).heap.size = w1.heap.size := by simp [World.setCell]
        have hb2 : Below (w1.setCell ⟨g, 0, none⟩ v).heap.size (w1.setCell ⟨g, 0, none⟩ v) w' := by
          refine (below_alloc (w1.setCell ⟨g, 0, none⟩ v) (.cells #[] 5)).trans ?_
          rw [e]; exact hb
        exact ⟨a2, c2, e2, hs2, hR.below hb2, (C1.out.trans (chg_setCell w1 g 0 v)).trans (Chg.of_below _ hb2), fun x hx => ⟨Nat.le_trans C1.out.size (hx2 x hx).2.2.1, (hx2 x hx).2.2.2⟩⟩⟩
      rcases HI.out.loc with rfl | ⟨hne, off, rfl⟩
      · obtain rfl : n = 0 := by simpa using hn
        have hb0 := HI.out.row
        cases a with
        | none =>
          obtain rfl := CS.none hb0 rfl
          have hR : Kept (REyeAt (w1.setCell ⟨g, 0, none⟩ (.slice none 0 0)) g A [] false) := ⟨⟨_, _, HI.out.put1 (BS.nil _) (.inl rfl)⟩⟩
          go_wp2_with fail
          go_ret
          obtain ⟨a2, c2, e2, h2, h3, h4⟩ := fin.out _ _ _ (own0.out (.slice none 0 0)) (Below.refl _ _) hR.out
          exact ⟨a2, c2, congrArg Ending.returned e2, h2, h3, h4⟩
        | some x =>
          obtain ⟨b, off, spot⟩ := x
          have hR : Kept (REyeAt (w1.setCell ⟨g, 0, none⟩ (.slice (some ⟨b, off, spot⟩) 0 cap)) g A [] false) := ⟨⟨_, _, HI.out.put1 hb0 (.inl rfl)⟩⟩
          have Hb0 := hid hb0
          clear hb0
          go_wp2_with (at_builtin; refine wpList_append_b (.tmp 40) (.tmp 41) _ rfl rfl _ 5 info_u8 under_bytes _ _ (own0.out _) rfl (key.out _) (by rw [Ht.out]; rfl) (by rw [Ht.out]; simp) (siz.out _) ?_; intro v5 w5 hown5 hg5 hb5 _)
          go_ret
          rw [List.nil_append] at hown5
          obtain ⟨a2, c2, e2, h2, h3, h4⟩ := fin.out _ _ _ hown5 hb5 hR.out
          exact ⟨a2, c2, by rw [e2]; simp, h2, h3, h4⟩
      · have Hne := hid hne
        clear hne
        have hR1 : cap = n → Kept (REyeAt (w1.setCell ⟨g, 0, none⟩ (.slice (some ⟨A, off, none⟩) (p.length - n) 0)) g A (p.drop n) false) := fun h => ⟨by
          have := IsREye.skip Hne.out HI.out n (by omega) off (.inl h)
          rw [show cap - n = 0 from by omega] at this
          exact this⟩
        have hR2 : Kept (REyeAt (w1.setCell ⟨g, 0, none⟩ (.slice (some ⟨A, off + n, none⟩) (p.length - n) (cap - n))) g A (p.drop n) false) := ⟨IsREye.skip Hne.out HI.out n (by omega) _ (.inr rfl)⟩
        have hRi : Kept (REyeAt (w1.setCell ⟨g, 0, none⟩ (.slice (if cap = n then some ⟨A, off, none⟩ else some ⟨A, off + n, none⟩) (p.length - n) (cap - n))) g A (p.drop n) false) := ⟨by
          by_cases h : cap = n
          · rw [if_pos h, show cap - n = 0 from by omega]; exact (hR1 h).out
          · rw [if_neg h]; exact hR2.out⟩
        clear hR1 hR2
        by_cases hn0 : n = 0
        · subst hn0
          have hR0 : Kept (REyeAt (w1.setCell ⟨g, 0, none⟩ (.slice (some ⟨A, off, none⟩) p.length cap)) g A (p.drop 0) false) := ⟨IsREye.skip Hne.out HI.out 0 (by omega) off (.inr rfl)⟩
          go_wp2_with fail
          go_ret
          obtain ⟨a2, c2, e2, h2, h3, h4⟩ := fin.out _ _ _ (own0.out _) (Below.refl _ _) hR0.out
          exact ⟨a2, c2, congrArg Ending.returned e2, h2, h3, h4⟩
        · go_wp2_with (at_builtin; refine wpList_append_b (.tmp 40) (.tmp 41) _ rfl rfl _ 5 info_u8 under_bytes _ _ (own0.out _) rfl (key.out _) (by rw [Ht.out]; rfl) (by rw [Ht.out]; simp; omega) (siz.out _) ?_; intro v5 w5 hown5 hg5 hb5 _)
          all_goals
            go_ret
            rw [List.nil_append] at hown5
            obtain ⟨a2, c2, e2, h2, h3, h4⟩ := fin.out _ _ _ hown5 hb5 hRi.out
            exact ⟨a2, c2, by rw [e2]; simp, h2, h3, h4⟩
  · rw [if_pos rfl]
    go_enter Tryd.func98, Tryd.ntmps98
    go_wp2_with fail
    refine En.out.mono ?_
    rintro e w1 ⟨rfl, h1, hc1⟩
    have H1 := hid h1
    have C1 := hid hc1
    obtain ⟨a, cap, hI⟩ := h1
    have c1 : w1.cell? ⟨g, 1, none⟩ = some (.bool true) := by rw [hI.own.cell]; rfl
    clear hI hc1
    go_wp2_with fail
    go_ret
    exact ⟨none, 0, rfl, BS.nil _, H1.out, C1.out, NewAt.none _ _⟩
end Go.Proofs.YtoapibbbooongaaDoor
