/- What stands in front of bytes: the document's way and the code's are one. (Several texts in one: InkTake, InkD, InkE, InkF, InkG.) -/
import Derived.Test.YtombndhjoaaaiaaDoorInkA
import Derived.Deep.QuietTactic
import Derived.BigQuiet

/- What stands in front of bytes: the document's way and the code's are one. -/
namespace Quad.Ink

theorem valL_snoc' (y : UInt8) : ∀ l : List UInt8, valL (l ++ [y]) = valL l + 128 ^ l.length * (y.toNat % 128)
  | [] => by simp [valL]
  | b :: l => by
    rw [List.cons_append, valL, valL_snoc' y l, valL, List.length_cons, Nat.pow_succ]
    rw [Nat.mul_add, Nat.add_assoc, ← Nat.mul_assoc, Nat.mul_comm 128 (128 ^ l.length)]

theorem valL_lt : ∀ l : List UInt8, valL l < 128 ^ l.length
  | [] => by simp [valL]
  | b :: l => by
    have := valL_lt l
    rw [valL, List.length_cons, Nat.pow_succ]
    omega

theorem valL_drop_le : ∀ (l : List UInt8) (i : Nat), valL (l.drop i) ≤ valL l
  | l, 0 => by simp
  | [], i + 1 => by simp
  | b :: l, i + 1 => by
    have := valL_drop_le l i
    rw [List.drop_succ_cons, valL]
    omega

/-- bytes of which all but the last go on -/
def Runs (l : List UInt8) (_y : UInt8) : Prop := ∀ b ∈ l, 128 ≤ b.toNat

theorem num_len_good : ∀ (l : List UInt8) (y : UInt8), (∀ b ∈ l, 128 ≤ b.toNat) → y.toNat < 128 → (y.toNat ≠ 0 ∨ l = []) → (numL (valL (l ++ [y]))).length = l.length + 1 ∧ (y.toNat ≠ 0 → 1 ≤ valL (l ++ [y]))
  | [], y, _, hy, _ => by
    have e : valL ([] ++ [y]) = y.toNat := by simp [valL]; omega
    rw [e, numL_small hy]
    exact ⟨rfl, fun h => by omega⟩
  | b :: l, y, hb, hy, h0 => by
    have hne : y.toNat ≠ 0 := by rcases h0 with h | h; exact h; cases h
    obtain ⟨h1, h2⟩ := num_len_good l y (fun c hc => hb c (List.mem_cons_of_mem _ hc)) hy (.inl hne)
    have h3 := h2 hne
    rw [List.cons_append, valL]
    have hd : (b.toNat % 128 + 128 * valL (l ++ [y])) / 128 = valL (l ++ [y]) := by omega
    rw [numL_big (by omega), List.length_cons, hd, h1]
    exact ⟨rfl, fun _ => by omega⟩

theorem num_len_bad (l : List UInt8) (y : UInt8) (hy : y.toNat = 0) (hl : l ≠ []) : (numL (valL (l ++ [y]))).length ≤ l.length := by
  rw [valL_snoc', hy]
  have h := valL_lt l
  obtain ⟨k, hk⟩ : ∃ k, l.length = k + 1 := ⟨l.length - 1, by have := List.length_pos_iff.2 hl; omega⟩
  rw [hk] at h ⊢
  exact numL_len k _ (by simpa using h)
end Quad.Ink

namespace Go.Proofs.YtombndhjoaaaiaaDoor
open Go.RowKit Go.Quad _root_.Quad.Ink

/-- what the document's loop has gone over -/
def TakeRel (p : List UInt8) (i : Value) : Prop :=
  ∃ k : Nat, k ≤ 10 ∧ k ≤ p.length ∧ i = .int .i64 (k : Int) ∧ (∀ b ∈ p.take k, 128 ≤ b.toNat) ∧
    ((k ≤ 9 ∧ rd 0 p = (rd k (p.drop k)).map fun x => (valL (p.take k) + 128 ^ k * x.1, x.2)) ∨ (k = 10 ∧ rd 0 p = none))

theorem take_next {p : List UInt8} {k : Nat} {y : UInt8} (hk : k < 10) (hd : p.drop k = y :: p.drop (k + 1)) (ht : p.take (k + 1) = p.take k ++ [y]) (hkp : k < p.length) (h128 : 128 ≤ y.toNat)
    (hr : rd 0 p = (rd k (p.drop k)).map fun x => (valL (p.take k) + 128 ^ k * x.1, x.2)) :
    (k + 1 ≤ 9 ∧ rd 0 p = (rd (k + 1) (p.drop (k + 1))).map fun x => (valL (p.take (k + 1)) + 128 ^ (k + 1) * x.1, x.2)) ∨ (k + 1 = 10 ∧ rd 0 p = none) := by
  by_cases h9 : k = 9
  · right
    exact ⟨by omega, rd_bad hr hd (.inl ⟨h9, by omega⟩)⟩
  · left
    refine ⟨by omega, ?_⟩
    rw [rd_next hk hr hd (by omega) (by omega), ht, valL_snoc, List.length_take, Nat.min_eq_left (by omega)]

/-- one byte more, from behind -/
theorem horner (l : List UInt8) (i : Nat) (y : UInt8) (h : l.drop i = y :: l.drop (i + 1)) : valL (l.drop i) = valL (l.drop (i + 1)) * 128 + y.toNat % 128 := by
  rw [h, valL]; omega

theorem take_bound {p : List UInt8} {k : Nat} {y : UInt8} (hk : k ≤ 9) (hkp : k < p.length) (ht : p.take (k + 1) = p.take k ++ [y]) (h9 : ¬ (k = 9 ∧ 1 < y.toNat)) : valL (p.take (k + 1)) < 18446744073709551616 := by
  rw [ht, valL_snoc, List.length_take, Nat.min_eq_left (by omega)]
  have h1 := valL_lt (p.take k)
  rw [List.length_take, Nat.min_eq_left (by omega)] at h1
  by_cases h : k = 9
  · subst h
    have e : (128 : Nat) ^ 9 = 9223372036854775808 := by decide
    rw [e] at h1 ⊢
    have : y.toNat % 128 ≤ 1 := by omega
    omega
  · have h8 : ∀ j : Fin 9, 128 ^ j.val * 128 ≤ 9223372036854775808 := by decide
    have h2 := h8 ⟨k, by omega⟩
    dsimp only at h2
    have h3 : 128 ^ k * (y.toNat % 128) ≤ 128 ^ k * 127 := Nat.mul_le_mul_left _ (by omega)
    omega

/-- what the document's Take answers -/
def TakeTo (w : World) (a : Option Addr) (p : List UInt8) (e : Ending) (w' : World) : Prop :=
  (match rd 0 p with
   | some (n, r) => ∃ a' c', e = .returned (.tuple #[.int .u64 (n : Int), .slice a' r.length c', .bool true]) ∧ BS w' a' c' r ∧ (∀ x, a' = some x → x.spot = none ∧ ∃ y, a = some y ∧ x.block = y.block)
   | none => e = .returned (.tuple #[.int .u64 0, .slice none 0 0, .bool false])) ∧ Below w.heap.size w w'

def HornRel (l : List UInt8) (n i : Value) : Prop :=
  ∃ j : Nat, j ≤ l.length ∧ i = .int .i64 ((j : Int) - 1) ∧ n = .int .u64 ((valL (l.drop j) : Nat) : Int)

theorem bs_read {w : World} {b off cap : Nat} {p : List UInt8} (h : BS w (some ⟨b, off, none⟩) cap p) (k : Nat) (hk : k < p.length) (o' : Nat) (ho : cap = k + 1 ∨ o' = off + (k + 1)) :
    BS w (some ⟨b, o', none⟩) (cap - (k + 1)) (p.drop (k + 1)) := by
  have hf := h.fit'
  have hm := CS.max h
  have hl : (p.drop (k + 1)).length = p.length - (k + 1) := List.length_drop
  rcases ho with rfl | rfl
  · have : p.drop (k + 1) = [] := List.eq_nil_of_length_eq_zero (by omega)
    rw [this]
    exact ⟨by simp, by omega, by simp, .inl (by simp)⟩
  · obtain ⟨b', off', e, hc⟩ := BS.at h (by omega)
    cases e
    refine BS.of_row (len := p.length - (k + 1)) hl (by omega) (by omega) fun i hi => ?_
    have := hc (k + 1 + i) (by omega)
    rw [show off + (k + 1) + i = off + (k + 1 + i) from by omega, this]
    simp

def ARel (k : Nat) (_n i : Value) : Prop := i = .int .i64 (k : Int)

theorem wrap_horn (V z : Nat) (h : V * 128 + z % 128 < 18446744073709551616) : IntKind.u64.wrap (IntKind.u64.wrap ((V : Int) * 128) + (z : Int) % 128) = ((V * 128 + z % 128 : Nat) : Int) := by
  rw [IntWalk.u64_in ((V : Int) * 128) ⟨by omega, by omega⟩, IntWalk.u64_in _ ⟨by omega, by omega⟩]
  omega

end Go.Proofs.YtombndhjoaaaiaaDoor

/- The walks of layer 1: what an eye is asked, the code's and the document's. -/
namespace Go.Proofs.YtombndhjoaaaiaaDoor
open Go.RowKit Go.Quad _root_.Quad.Ink

/-- an eye's state: what is left; has it failed -/
abbrev St := List UInt8 × Bool

def numS (s : St) : Nat × St := if s.2 then (0, s) else numTo s.1
def failS : St := ([], true)
def intS (s : St) : Nat × St := if 2147483647 < (numS s).1 then (0, failS) else numS s
def boolS (s : St) : Bool × St := if 1 < (numS s).1 then (false, failS) else ((numS s).1 == 1, (numS s).2)
def textS (s : St) : List UInt8 × St :=
  if (numS s).2.2 then ([], (numS s).2) else if (numS s).2.1.length < (numS s).1 then ([], failS) else ((numS s).2.1.take (numS s).1, ((numS s).2.1.drop (numS s).1, false))

theorem rd_lt {p r : List UInt8} {n : Nat} (h : rd 0 p = some (n, r)) : n < 18446744073709551616 := by
  have key : ∀ (p : List UInt8) (i n : Nat) (r : List UInt8), i ≤ 9 → rd i p = some (n, r) → n * 128 ^ i < 18446744073709551616 := by
    intro p
    induction p with
    | nil => intro i n r _ h; simp [rd] at h
    | cons b q ih =>
      intro i n r hi h
      rw [rd, if_neg (by omega)] at h
      by_cases h9 : i = 9 ∧ 1 < b.toNat
      · rw [if_pos h9] at h; cases h
      · rw [if_neg h9] at h
        have h8 : ∀ j : Fin 9, 128 ^ j.val * 128 ≤ 9223372036854775808 := by decide
        by_cases h1 : b.toNat < 128
        · rw [if_pos h1] at h
          split at h
          · cases h
          · cases h
            by_cases h99 : i = 9
            · subst h99
              have : b.toNat ≤ 1 := by omega
              have e : (128 : Nat) ^ 9 = 9223372036854775808 := by decide
              rw [e]; omega
            · have h2 := h8 ⟨i, by omega⟩
              dsimp only at h2
              have h3 : b.toNat * 128 ^ i ≤ 127 * 128 ^ i := Nat.mul_le_mul_right _ (by omega)
              omega
        · rw [if_neg h1, Option.map_eq_some_iff] at h
          obtain ⟨⟨n', r'⟩, h2, h3⟩ := h
          cases h3
          have h99 : i ≠ 9 := by intro e; exact h9 ⟨e, by omega⟩
          have hn := ih (i + 1) n' r' (by omega) h2
          rw [Nat.pow_succ] at hn
          have h4 := h8 ⟨i, by omega⟩
          dsimp only at h4
          have h5 : (b.toNat % 128) * 128 ^ i ≤ 127 * 128 ^ i := Nat.mul_le_mul_right _ (by omega)
          have e1 : (b.toNat % 128 + 128 * n') * 128 ^ i = (b.toNat % 128) * 128 ^ i + n' * (128 ^ i * 128) := by
            rw [Nat.add_mul, Nat.mul_comm 128 n', Nat.mul_assoc, Nat.mul_comm 128 (128 ^ i)]
          have hdiv : 128 ^ i * 128 ∣ 18446744073709551616 := by
            have hd : ∀ j : Fin 9, 18446744073709551616 % (128 ^ j.val * 128) = 0 := by decide
            exact Nat.dvd_of_mod_eq_zero (hd ⟨i, by omega⟩)
          obtain ⟨c, hc⟩ := hdiv
          rw [e1]
          have h6 : n' < c := by
            have hpos : 0 < 128 ^ i * 128 := Nat.mul_pos (Nat.pow_pos (by decide)) (by decide)
            rw [hc, Nat.mul_comm n'] at hn
            exact Nat.lt_of_mul_lt_mul_left hn
          have h7 : n' * (128 ^ i * 128) + 128 ^ i * 128 ≤ 18446744073709551616 := by
            rw [hc]
            have : (128 ^ i * 128) * (n' + 1) ≤ (128 ^ i * 128) * c := Nat.mul_le_mul_left _ h6
            rw [Nat.mul_add, Nat.mul_one, Nat.mul_comm _ n'] at this
            exact this
          have hp : 0 < 128 ^ i := Nat.pow_pos (by decide)
          omega
  have := key p 0 n r (by omega) h
  simpa using this

theorem numS_lt (s : St) : (numS s).1 < 18446744073709551616 := by
  unfold numS
  split
  · simp
  · unfold numTo
    split
    · rename_i n r h; exact rd_lt h
    · simp

set_option maxHeartbeats 400000 in
theorem enum_calls (w : World) (B g : Nat) (s : St) (h : EyeAt w B g s.1 s.2) :
    Calls Tryd.prog 72 #[.pointer (some ⟨g, 0, none⟩)] w fun e w' =>
      e = .returned (.int .u64 ((numS s).1 : Int)) ∧ EyeAt w' B g (numS s).2.1 (numS s).2.2 ∧ Chg [g] w w' := by
  obtain ⟨p, bad⟩ := s
  cases bad
  · exact eyenum_calls w B g p h
  · have c1 : w.cell? ⟨g, 1, none⟩ = some (.bool true) := by
      obtain ⟨a, cap, h⟩ := h
      rw [h.own.cell]; rfl
    have H := hid h
    clear h
    go_enter Tryd.func72, Tryd.ntmps72
    go_wp2_with fail
    go_ret
    exact ⟨rfl, H.out, Chg.refl _ _⟩

/-- 'fail' at whatever state -/
theorem efail_calls (w : World) (B g : Nat) (p : List UInt8) (bad : Bool) (h : EyeAt w B g p bad) :
    Calls Tryd.prog 83 #[.pointer (some ⟨g, 0, none⟩)] w fun e w' => e = .returned (.int .u64 0) ∧ EyeAt w' B g [] true ∧ Chg [g] w w' := by
  obtain ⟨a, cap, h⟩ := h
  have c0 : w.cell? ⟨g, 0, none⟩ = some (.slice a p.length cap) := by rw [h.own.cell]; rfl
  have c1 : w.cell? ⟨g, 1, none⟩ = some (.bool bad) := by rw [h.own.cell]; rfl
  have f0 := h.own.free 0
  have f1 := h.own.free 1
  have H := hid h
  clear h
  go_enter Tryd.func83, Tryd.ntmps83
  go_wp2_with fail
  go_ret
  have hB := H.out.own.set 1 (.bool true)
  refine ⟨rfl, ⟨none, 0, ?_, BS.nil _, H.out.ge, by simp, by simp, by simp⟩, (chg_setCell w g 1 _).trans (chg_setCell _ g 0 _)⟩
  have := hB.set 0 (.slice none 0 0)
  simpa using this

set_option maxHeartbeats 400000 in
theorem eint_calls (w : World) (B g : Nat) (s : St) (h : EyeAt w B g s.1 s.2) :
    Calls Tryd.prog 73 #[.pointer (some ⟨g, 0, none⟩)] w fun e w' =>
      e = .returned (.int .i64 ((intS s).1 : Int)) ∧ EyeAt w' B g (intS s).2.1 (intS s).2.2 ∧ Chg [g] w w' := by
  have en := enum_calls w B g s h
  have hlt := numS_lt s
  unfold intS
  generalize numS s = q at en hlt ⊢
  obtain ⟨n, p, bad⟩ := q
  dsimp only at en hlt ⊢
  have En := hid en
  clear en h
  by_cases hn : 2147483647 < n
  · rw [if_pos hn]
    have hn' : (2147483647 : Int) < (n : Int) := by omega
    clear hlt hn
    go_enter Tryd.func73, Tryd.ntmps73
    go_wp2_with fail
    refine En.out.mono ?_
    rintro e w1 ⟨rfl, h1, hc1⟩
    have H1 := hid h1
    have C1 := hid hc1
    clear h1 hc1
    go_wp2_with fail
    refine (efail_calls w1 B g p bad H1.out).mono ?_
    rintro e w2 ⟨rfl, h2, hc2⟩
    have H2 := hid h2
    have C2 := hid hc2
    clear h2 hc2
    go_wp2_with fail
    go_ret
    exact ⟨rfl, H2.out, C1.out.trans C2.out⟩
  · rw [if_neg hn]
    have hn' : ¬ ((2147483647 : Int) < (n : Int)) := by omega
    clear hlt hn
    go_enter Tryd.func73, Tryd.ntmps73
    go_wp2_with fail
    refine En.out.mono ?_
    rintro e w1 ⟨rfl, h1, hc1⟩
    have H1 := hid h1
    have C1 := hid hc1
    clear h1 hc1
    go_wp2_with fail
    go_ret
    refine ⟨?_, H1.out, C1.out⟩
    first | rfl | (congr 2; go_num)

set_option maxHeartbeats 400000 in
theorem ebool_calls (w : World) (B g : Nat) (s : St) (h : EyeAt w B g s.1 s.2) :
    Calls Tryd.prog 84 #[.pointer (some ⟨g, 0, none⟩)] w fun e w' =>
      e = .returned (.bool (boolS s).1) ∧ EyeAt w' B g (boolS s).2.1 (boolS s).2.2 ∧ Chg [g] w w' := by
  have en := enum_calls w B g s h
  unfold boolS
  generalize numS s = q at en ⊢
  obtain ⟨n, p, bad⟩ := q
  dsimp only at en ⊢
  have En := hid en
  clear en h
  by_cases hn : 1 < n
  · rw [if_pos hn]
    have hn' : (1 : Int) < (n : Int) := by omega
    clear hn
    go_enter Tryd.func84, Tryd.ntmps84
    go_wp2_with fail
    refine En.out.mono ?_
    rintro e w1 ⟨rfl, h1, hc1⟩
    have H1 := hid h1
    have C1 := hid hc1
    clear h1 hc1
    go_wp2_with fail
    refine (efail_calls w1 B g p bad H1.out).mono ?_
    rintro e w2 ⟨rfl, h2, hc2⟩
    have H2 := hid h2
    have C2 := hid hc2
    clear h2 hc2
    go_wp2_with fail
    go_ret
    exact ⟨rfl, H2.out, C1.out.trans C2.out⟩
  · rw [if_neg hn]
    have hn' : ¬ ((1 : Int) < (n : Int)) := by omega
    have he : ((n : Int) == 1) = (n == 1) := by
      by_cases h1 : n = 1
      · subst h1; rfl
      · have a1 : (n == 1) = false := by simpa using h1
        have a2 : ((n : Int) == 1) = false := by simp; omega
        rw [a1, a2]
    have He := hid he
    clear hn he
    go_enter Tryd.func84, Tryd.ntmps84
    go_wp2_with fail
    refine En.out.mono ?_
    rintro e w1 ⟨rfl, h1, hc1⟩
    have H1 := hid h1
    have C1 := hid hc1
    clear h1 hc1
    go_wp2_with fail
    go_ret
    refine ⟨?_, H1.out, C1.out⟩
    rw [← He.out]
    rfl

theorem numS_len (s : St) : (numS s).2.1.length ≤ s.1.length := by
  unfold numS
  split
  · exact Nat.le_refl _
  · unfold numTo
    split
    · rename_i n r h
      obtain ⟨k, rfl, _⟩ := rd_behind h
      rw [List.length_drop]; omega
    · simp

/-- an eye goes on by n bytes -/
theorem IsEye.skip {w w' : World} {B g b off cap : Nat} {p : List UInt8} {bad : Bool} (h : IsEye w B g (some ⟨b, off, none⟩) cap p bad) (hb : Below w.heap.size w w') (n : Nat) (hn : n ≤ p.length) (o' : Nat) (ho : cap = n ∨ o' = off + n) :
    EyeAt (w'.setCell ⟨g, 0, none⟩ (.slice (some ⟨b, o', none⟩) (p.length - n) (cap - n))) B g (p.drop n) bad := by
  have h' : IsEye w' B g (some ⟨b, off, none⟩) cap p bad := ⟨h.own.below hb, h.row.below hb, h.ge, h.up, h.lt, h.form⟩
  have hf := h.row.fit'
  have hm := CS.max h.row
  have hl : (p.drop n).length = p.length - n := List.length_drop
  have hB : BS w' (some ⟨b, o', none⟩) (cap - n) (p.drop n) := by
    by_cases h0 : n = p.length
    · have : p.drop n = [] := List.eq_nil_of_length_eq_zero (by omega)
      rw [this]
      exact ⟨by simp, by omega, by simp, .inl (by simp)⟩
    · rcases ho with rfl | rfl
      · omega
      · obtain ⟨b', off', e, hc⟩ := BS.at h'.row (by omega)
        cases e
        refine BS.of_row (len := p.length - n) hl (by omega) (by omega) fun i hi => ?_
        have := hc (n + i) (by omega)
        rw [show off + n + i = off + (n + i) from by omega, this]
        simp
  have := h'.put hB (fun x hx => by cases hx; exact h.up ⟨b, off, none⟩ rfl) (fun x hx => by cases hx; exact h.lt ⟨b, off, none⟩ rfl) (fun x hx => by cases hx; rfl)
  rw [hl] at this
  exact ⟨_, _, this⟩

end Go.Proofs.YtombndhjoaaaiaaDoor

/- The walks of layer 1: the document's eye. -/
namespace Go.Proofs.YtombndhjoaaaiaaDoor
open Go.RowKit Go.Quad _root_.Quad.Ink


/-- where an eye's bytes lie: in the block A, or nowhere -/
def Loc (g A : Nat) (a : Option Addr) (p : List UInt8) : Prop := p = [] ∨ (A ≠ g ∧ ∃ off, a = some ⟨A, off, none⟩)

theorem Loc.row {S : List Nat} {w w' : World} {g A : Nat} {a : Option Addr} {cap : Nat} {p : List UInt8} (h : Loc g A a p) (hb : BS w a cap p) (hc : Chg S w w') (hA : A ≠ g → A ∉ S) : BS w' a cap p := by
  rcases h with rfl | ⟨hne, off, rfl⟩
  · exact bs_void hb
  · exact cs_chg hb hc (fun x hx => by cases hx; exact hA hne)

theorem Loc.take {g A : Nat} {a : Option Addr} {p : List UInt8} (h : Loc g A a p) (n : Nat) : Loc g A a (p.take n) := Or.imp (fun e => by rw [e]; simp) id h

end Go.Proofs.YtombndhjoaaaiaaDoor

/- The walks of layer 1: the document's eye: its end, its texts. -/
namespace Go.Proofs.YtombndhjoaaaiaaDoor
open Go.RowKit Go.Quad _root_.Quad.Ink

end Go.Proofs.YtombndhjoaaaiaaDoor

/- The walks of layer 1: the document's eye: its texts, in memory of their own. -/
namespace Go.Proofs.YtombndhjoaaaiaaDoor
open Go.RowKit Go.Quad _root_.Quad.Ink

/-- an address, if there is one, in memory made since -/
def NewAt (B : Nat) (w : World) (a : Option Addr) : Prop := ∀ x, a = some x → B ≤ x.block ∧ x.block < w.heap.size
theorem NewAt.none (B : Nat) (w : World) : NewAt B w none := by intro x hx; cases hx
theorem NewAt.mono {B B' : Nat} {w w' : World} {a : Option Addr} (h : NewAt B w a) (hB : B' ≤ B) (hs : w.heap.size ≤ w'.heap.size) : NewAt B' w' a := fun x hx => ⟨Nat.le_trans hB (h x hx).1, Nat.lt_of_lt_of_le (h x hx).2 hs⟩

end Go.Proofs.YtombndhjoaaaiaaDoor
