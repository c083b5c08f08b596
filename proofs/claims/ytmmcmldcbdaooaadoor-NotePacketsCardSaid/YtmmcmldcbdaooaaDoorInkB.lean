/- The walks of layer 1: the eye. -/
import Derived.Test.YtmmcmldcbdaooaaDoorInkA
namespace Go.Proofs.YtmmcmldcbdaooaaDoor
open Go.RowKit Go.Quad _root_.Quad.Ink

/-- an eye in memory: at g, its bytes at a -/
structure IsEye (w : World) (B g : Nat) (a : Option Addr) (cap : Nat) (p : List UInt8) (bad : Bool) : Prop where
  own : Blk w g [.slice a p.length cap, .bool bad] 124
  row : BS w a cap p
  ge : B ≤ g
  up : ∀ x, a = some x → x.block < g
  lt : ∀ x, a = some x → B ≤ x.block
  form : ∀ x, a = some x → x.spot = none

theorem IsEye.off {w : World} {B g : Nat} {a : Option Addr} {cap : Nat} {p : List UInt8} {bad : Bool} (h : IsEye w B g a cap p bad) : Off g a := by
  cases a with
  | none => trivial
  | some x => exact Nat.ne_of_lt (h.up x rfl)

def EyeAt (w : World) (B g : Nat) (p : List UInt8) (bad : Bool) : Prop := ∃ a cap, IsEye w B g a cap p bad

/-- an eye that reads on -/
theorem IsEye.put {w : World} {B g : Nat} {a a' : Option Addr} {cap cap' : Nat} {p p' : List UInt8} {bad : Bool} (h : IsEye w B g a cap p bad) (hb : BS w a' cap' p') (ho : ∀ x, a' = some x → x.block < g) (hl : ∀ x, a' = some x → B ≤ x.block) (hfm : ∀ x, a' = some x → x.spot = none) :
    IsEye (w.setCell ⟨g, 0, none⟩ (.slice a' p'.length cap')) B g a' cap' p' bad :=
  ⟨by have := h.own.set 0 (.slice a' p'.length cap'); simpa using this,
   hb.other (row := some g) ⟨rfl, rfl, rfl, by simp [World.setCell], fun k _ hs => Below.heap_setCell _ _ _ _ (by simpa using Ne.symm (fun e => hs (by rw [e])))⟩ (by
     intro k hk; cases hk
     cases a' with
     | none => trivial
     | some x => exact Nat.ne_of_lt (ho x rfl)), h.ge, ho, hl, hfm⟩

set_option maxHeartbeats 400000 in
theorem fail_calls (w : World) (B g : Nat) (p : List UInt8) (h : EyeAt w B g p false) :
    Calls Tryd.prog 82 #[.pointer (some ⟨g, 0, none⟩)] w fun e w' => e = .returned (.int .u64 0) ∧ EyeAt w' B g [] true ∧ Chg [g] w w' := by
  obtain ⟨a, cap, h⟩ := h
  have c0 : w.cell? ⟨g, 0, none⟩ = some (.slice a p.length cap) := by rw [h.own.cell]; rfl
  have c1 : w.cell? ⟨g, 1, none⟩ = some (.bool false) := by rw [h.own.cell]; rfl
  have f0 := h.own.free 0
  have f1 := h.own.free 1
  have H := hid h
  clear h
  go_enter Tryd.func82, Tryd.ntmps82
  go_wp2_with fail
  go_ret
  have hB := H.out.own.set 1 (.bool true)
  refine ⟨rfl, ⟨none, 0, ?_, BS.nil _, H.out.ge, by simp, by simp, by simp⟩, (chg_setCell w g 1 _).trans (chg_setCell _ g 0 _)⟩
  have := hB.set 0 (.slice none 0 0)
  simpa using this

theorem end_calls (w : World) (B g : Nat) (p : List UInt8) (bad : Bool) (h : EyeAt w B g p bad) :
    Calls Tryd.prog 80 #[.pointer (some ⟨g, 0, none⟩)] w fun e w' => e = .returned (.int .i64 (if bad ∨ 0 < p.length then 4 else 0)) ∧ w = w' := by
  obtain ⟨a, cap, h⟩ := h
  have c0 : w.cell? ⟨g, 0, none⟩ = some (.slice a p.length cap) := by rw [h.own.cell]; rfl
  have c1 : w.cell? ⟨g, 1, none⟩ = some (.bool bad) := by rw [h.own.cell]; rfl
  clear h
  cases bad
  · by_cases h0 : 0 < p.length
    · have h0' : (0 : Int) < (p.length : Int) := by omega
      simp only [Bool.false_eq_true, false_or, h0, if_true]
      clear h0
      go_enter Tryd.func80, Tryd.ntmps80
      go_wp2_with fail
      go_ret
      exact ⟨rfl, rfl⟩
    · have h0' : ¬ ((0 : Int) < (p.length : Int)) := by omega
      simp only [Bool.false_eq_true, false_or, h0, if_false]
      clear h0
      go_enter Tryd.func80, Tryd.ntmps80
      go_wp2_with fail
      go_ret
      exact ⟨rfl, rfl⟩
  · simp only [true_or, if_true]
    go_enter Tryd.func80, Tryd.ntmps80
    go_wp2_with fail
    go_ret
    exact ⟨rfl, rfl⟩

set_option maxHeartbeats 400000 in
theorem read_calls (a : Option Addr) (cap : Nat) (l : List UInt8) (w : World) (h : BS w a cap l) (hn : l.length ≤ 140737488355328) :
    Calls Tryd.prog 78 #[.slice a l.length cap] w fun e w' => ∃ g, e = .returned (.pointer (some ⟨g, 0, none⟩)) ∧ EyeAt w' w.heap.size g l false ∧ Below w.heap.size w w' := by
  have H := hid h
  clear h
  go_enter Tryd.func78, Tryd.ntmps78
  go_wp2_with fail
  refine (clone_calls _ _ _ _ H.out hn).mono ?_
  rintro e w1 ⟨v, rfl, ho, hb⟩
  obtain ⟨a1, c1, rfl, hs, hx⟩ := ho.bs
  have Hs := hid hs
  have Hx := hid hx
  have Hb := hid hb
  clear ho hs hx hb
  go_wp2_with fail
  go_ret
  refine ⟨w1.heap.size, rfl, ⟨a1, c1, ?_, ?_, Hb.out.size, ?_, ?_, fun x hx => (Hx.out x hx).2.1⟩, Hb.out.trans ((below_alloc w1 _).mono Hb.out.size)⟩
  · exact blk_alloc w1 [.slice a1 l.length c1, .bool false] _
  · exact Hs.out.below (below_alloc w1 _)
  · intro x hx; exact (Hx.out x hx).2.2.2
  · intro x hx; exact (Hx.out x hx).2.2.1

theorem andNot128 (x : Nat) (h : x < 256) : bits .andNot .u8 (x : Int) 128 = ((x % 128 : Nat) : Int) := by
  have h' : ∀ x : Fin 256, bits .andNot .u8 ((x.val : Nat) : Int) 128 = ((x.val % 128 : Nat) : Int) := by decide +kernel
  exact h' ⟨x, h⟩

theorem num_step (k V x : Nat) (hk : k ≤ 9) (hx : x < 256) (hV : V < 128 ^ k) (h9 : k = 9 → x ≤ 1) :
    bits .or .u64 (V : Int) (IntKind.u64.wrap (IntKind.u64.wrap (bits .andNot .u8 (x : Int) 128) * 2 ^ (7 * k))) = ((V + 128 ^ k * (x % 128) : Nat) : Int) := by
  have hp : (128 : Nat) ^ k = 2 ^ (7 * k) := by rw [Nat.pow_mul]
  have hb : 128 ^ k * (x % 128) < 18446744073709551616 - 128 ^ k ∨ (k = 9 ∧ 128 ^ k * (x % 128) ≤ 9223372036854775808) := by
    by_cases h : k = 9
    · subst h
      have := h9 rfl
      right
      refine ⟨rfl, ?_⟩
      have : x % 128 ≤ 1 := by omega
      have e : (128 : Nat) ^ 9 = 9223372036854775808 := by decide
      rw [e]
      omega
    · left
      have h8 : ∀ j : Fin 9, 128 ^ j.val * 127 < 18446744073709551616 - 128 ^ j.val := by decide
      have := h8 ⟨k, by omega⟩
      dsimp only at this
      have h2 : 128 ^ k * (x % 128) ≤ 128 ^ k * 127 := Nat.mul_le_mul_left _ (by omega)
      omega
  have hlt : 128 ^ k * (x % 128) < 18446744073709551616 := by omega
  rw [andNot128 x hx, IntWalk.u64_in ((x % 128 : Nat) : Int) ⟨by omega, by omega⟩]
  have e1 : (((x % 128 : Nat) : Int) * 2 ^ (7 * k)) = ((128 ^ k * (x % 128) : Nat) : Int) := by
    rw [hp]; push_cast; rw [Int.mul_comm]
  have hV64 : V < 18446744073709551616 := by
    have h8 : ∀ j : Fin 10, 128 ^ j.val ≤ 9223372036854775808 := by decide
    have := h8 ⟨k, by omega⟩
    dsimp only at this
    omega
  rw [e1, IntWalk.u64_in _ ⟨by omega, by omega⟩, u64_or_nat _ _ hV64 hlt]
  congr 1
  rw [hp] at hV ⊢
  rw [Nat.or_comm, ← Nat.two_pow_add_eq_or_of_lt hV, Nat.add_comm]

theorem IsEye.read {w : World} {B g b off cap : Nat} {p : List UInt8} {bad : Bool} (h : IsEye w B g (some ⟨b, off, none⟩) cap p bad) (k : Nat) (hk : k < p.length) (o' : Nat) (ho : cap = k + 1 ∨ o' = off + (k + 1)) :
    EyeAt (w.setCell ⟨g, 0, none⟩ (.slice (some ⟨b, o', none⟩) (p.length - (k + 1)) (cap - (k + 1)))) B g (p.drop (k + 1)) bad := by
  have hf := h.row.fit'
  have hm := CS.max h.row
  have hl : (p.drop (k + 1)).length = p.length - (k + 1) := List.length_drop
  have hb : BS w (some ⟨b, o', none⟩) (cap - (k + 1)) (p.drop (k + 1)) := by
    rcases ho with rfl | rfl
    · have : p.drop (k + 1) = [] := List.eq_nil_of_length_eq_zero (by omega)
      rw [this]
      exact ⟨by simp, by omega, by simp, .inl (by simp)⟩
    · obtain ⟨b', off', e, hc⟩ := BS.at h.row (by omega)
      cases e
      refine BS.of_row (len := p.length - (k + 1)) hl (by omega) (by omega) fun i hi => ?_
      have := hc (k + 1 + i) (by omega)
      rw [show off + (k + 1) + i = off + (k + 1 + i) from by omega, this]
      simp
  have := h.put hb (fun x hx => by cases hx; exact h.up ⟨b, off, none⟩ rfl) (fun x hx => by cases hx; exact h.lt ⟨b, off, none⟩ rfl) (fun x hx => by cases hx; rfl)
  rw [hl] at this
  exact ⟨_, _, this⟩

theorem valL_snoc (y : UInt8) : ∀ l : List UInt8, valL (l ++ [y]) = valL l + 128 ^ l.length * (y.toNat % 128)
  | [] => by simp [valL]
  | b :: l => by
    rw [List.cons_append, valL, valL_snoc y l, valL, List.length_cons, Nat.pow_succ]
    rw [Nat.mul_add, Nat.add_assoc, ← Nat.mul_assoc, Nat.mul_comm 128 (128 ^ l.length)]

theorem rd_next {p : List UInt8} {k V : Nat} {y : UInt8} (hk : k < 10) (hr : rd 0 p = (rd k (p.drop k)).map fun x => (V + 128 ^ k * x.1, x.2)) (hd : p.drop k = y :: p.drop (k + 1))
    (h9 : ¬ (k = 9 ∧ 1 < y.toNat)) (h1 : ¬ y.toNat < 128) : rd 0 p = (rd (k + 1) (p.drop (k + 1))).map fun x => (V + 128 ^ k * (y.toNat % 128) + 128 ^ (k + 1) * x.1, x.2) := by
  rw [hr, hd, rd, if_neg (by omega), if_neg h9, if_neg h1, Option.map_map]
  congr 1
  funext x
  simp only [Function.comp]
  rw [Nat.mul_add, Nat.pow_succ, Nat.mul_assoc, Nat.add_assoc]

theorem rd_ret {p : List UInt8} {k V : Nat} {y : UInt8} (hk : k < 10) (hr : rd 0 p = (rd k (p.drop k)).map fun x => (V + 128 ^ k * x.1, x.2)) (hd : p.drop k = y :: p.drop (k + 1))
    (h9 : ¬ (k = 9 ∧ 1 < y.toNat)) (h1 : y.toNat < 128) (h0 : ¬ (y.toNat = 0 ∧ 0 < k)) : rd 0 p = some (V + 128 ^ k * (y.toNat % 128), p.drop (k + 1)) := by
  rw [hr, hd, rd, if_neg (by omega), if_neg h9, if_pos h1, if_neg h0, Nat.mod_eq_of_lt h1]
  rfl

theorem rd_bad {p : List UInt8} {k V : Nat} {y : UInt8} (hr : rd 0 p = (rd k (p.drop k)).map fun x => (V + 128 ^ k * x.1, x.2)) (hd : p.drop k = y :: p.drop (k + 1))
    (h : (k = 9 ∧ 1 < y.toNat) ∨ (y.toNat < 128 ∧ y.toNat = 0 ∧ 0 < k)) : rd 0 p = none := by
  rw [hr, hd, rd]
  by_cases h10 : 10 ≤ k
  · rw [if_pos h10]; rfl
  · rw [if_neg h10]
    by_cases h9 : k = 9 ∧ 1 < y.toNat
    · rw [if_pos h9]; rfl
    · rw [if_neg h9]
      rcases h with h | ⟨h1, h2⟩
      · exact absurd h h9
      · rw [if_pos h1, if_pos h2]; rfl

def EyeRel (p : List UInt8) (n i : Value) : Prop :=
  ∃ k : Nat, k ≤ 10 ∧ k ≤ p.length ∧ i = .int .i64 (k : Int) ∧ n = .int .u64 ((valL (p.take k) : Nat) : Int) ∧ valL (p.take k) < 128 ^ k ∧
    rd 0 p = (rd k (p.drop k)).map fun x => (valL (p.take k) + 128 ^ k * x.1, x.2)

/-- what an eye answers to the question for a number, and what becomes of it -/
def numTo (p : List UInt8) : Nat × List UInt8 × Bool :=
  match rd 0 p with
  | some (n, r) => (n, r, false)
  | none => (0, [], true)

set_option maxRecDepth 20000 in
set_option maxHeartbeats 1000000 in
theorem eyenum_calls (w : World) (B g : Nat) (p : List UInt8) (h : EyeAt w B g p false) :
    Calls Tryd.prog 79 #[.pointer (some ⟨g, 0, none⟩)] w fun e w' =>
      e = .returned (.int .u64 ((numTo p).1 : Int)) ∧ EyeAt w' B g (numTo p).2.1 (numTo p).2.2 ∧ Chg [g] w w' := by
  have he := hid h
  obtain ⟨a, cap, h⟩ := h
  have c0 : w.cell? ⟨g, 0, none⟩ = some (.slice a p.length cap) := by rw [h.own.cell]; rfl
  have c1 : w.cell? ⟨g, 1, none⟩ = some (.bool false) := by rw [h.own.cell]; rfl
  have f0 := h.own.free 0
  have H := hid h
  have hm := h.row.max'
  have hf := h.row.fit'
  clear h
  go_enter Tryd.func79, Tryd.ntmps79
  go_wp2_with fail
  go_loop [3, 4, 5, 14] (fun n _ _ i => EyeRel p n i) (fun _ _ _ i => 10 - (intOf i).toNat)
  case atStart => exact ⟨0, by omega, by omega, rfl, rfl, by simp [valL], by simp [valL]⟩
  case round =>
    obtain ⟨k, hk, hkp, rfl, rfl, hv, hr⟩ := hrel
    have Hr := hid hr
    have Hv := hid hv
    clear hr hv
    generalize hV : valL (p.take k) = V at Hr Hv
    have HV := hid hV
    clear hV
    by_cases h10 : k < 10
    · by_cases hp : k < p.length
      · obtain ⟨b, off, rfl, hc⟩ := BS.at H.out.row (by omega)
        replace hc := hc k hp
        have hb := (p[k]).toNat_lt
        have Hd := hid (show p.drop k = p[k] :: p.drop (k + 1) from List.drop_eq_getElem_cons hp)
        have Ht := hid (show p.take (k + 1) = p.take k ++ [p[k]] from List.take_succ_eq_append_getElem hp)
        generalize p[k] = y at hc hb Hd Ht
        generalize hx : y.toNat = x at hc hb
        have Hx := hid hx
        clear hx
        by_cases h9 : k = 9
        · have h9b : ((k : Int) == 9) = true := by simp; omega
          have hk0 : (0 : Int) < (k : Int) := by omega
          by_cases h1 : 1 < x
          · have h1' : (1 : Int) < (x : Int) := by omega
            have HX := hid (show (k = 9 ∧ 1 < x) ∨ (x < 128 ∧ x = 0 ∧ 0 < k) by omega)
            clear h9 h1
            go_wp2_with fail
            refine (fail_calls w B g p he.out).mono ?_
            rintro e w' ⟨rfl, hE, hC⟩
            go_wp2_with fail
            go_ret
            have e : numTo p = (0, [], true) := by unfold numTo; rw [rd_bad Hr.out Hd.out (by rw [Hx.out]; exact HX.out)]
            rw [e]
            exact ⟨rfl, hE, hC⟩
          · have h1' : ¬ ((1 : Int) < (x : Int)) := by omega
            have h128 : (x : Int) < 128 := by omega
            by_cases h0 : x = 0
            · have h0b : ((x : Int) == 0) = true := by simp; omega
              have HX := hid (show (k = 9 ∧ 1 < x) ∨ (x < 128 ∧ x = 0 ∧ 0 < k) by omega)
              clear h9 h1 h0
              go_wp2_with fail
              refine (fail_calls w B g p he.out).mono ?_
              rintro e w' ⟨rfl, hE, hC⟩
              go_wp2_with fail
              go_ret
              have e : numTo p = (0, [], true) := by unfold numTo; rw [rd_bad Hr.out Hd.out (by rw [Hx.out]; exact HX.out)]
              rw [e]
              exact ⟨rfl, hE, hC⟩
            · have h0b : ((x : Int) == 0) = false := by simp; omega
              have HX := hid (show ¬ (k = 9 ∧ 1 < x) ∧ x < 128 ∧ ¬ (x = 0 ∧ 0 < k) by omega)
              clear h9 h1 h0
              go_wp2_with fail
              all_goals go_ret
              all_goals
                have e : numTo p = (V + 128 ^ k * (x % 128), p.drop (k + 1), false) := by unfold numTo; rw [rd_ret h10 Hr.out Hd.out (by rw [Hx.out]; exact HX.out.1) (by rw [Hx.out]; exact HX.out.2.1) (by rw [Hx.out]; exact HX.out.2.2), Hx.out]
                rw [e, ← num_step k V x (by omega) hb Hv.out (by have := HX.out; omega)]
                refine ⟨rfl, ?_, chg_setCell w g 0 _⟩
              · have hcap : cap = k + 1 := by assumption
                have := H.out.read k hp off (.inl hcap)
                rw [show cap - (k + 1) = 0 from by omega] at this
                exact this
              · exact H.out.read k hp _ (.inr rfl)
        · have h9b : ((k : Int) == 9) = false := by simp; omega
          have hk8 : (k : Int) ≤ 8 := by omega
          by_cases h128 : x < 128
          · have h128' : (x : Int) < 128 := by omega
            by_cases h0 : x = 0 ∧ 0 < k
            · have h0b : ((x : Int) == 0) = true := by simp; omega
              have hk0 : (0 : Int) < (k : Int) := by omega
              have HX := hid (show (k = 9 ∧ 1 < x) ∨ (x < 128 ∧ x = 0 ∧ 0 < k) by omega)
              clear h9 h0
              go_wp2_with fail
              refine (fail_calls w B g p he.out).mono ?_
              rintro e w' ⟨rfl, hE, hC⟩
              go_wp2_with fail
              go_ret
              have e : numTo p = (0, [], true) := by unfold numTo; rw [rd_bad Hr.out Hd.out (by rw [Hx.out]; exact HX.out)]
              rw [e]
              exact ⟨rfl, hE, hC⟩
            · by_cases hx0 : x = 0
              · have h0b : ((x : Int) == 0) = true := by simp; omega
                have hk0 : ¬ ((0 : Int) < (k : Int)) := by omega
                have HX := hid (show ¬ (k = 9 ∧ 1 < x) ∧ x < 128 ∧ ¬ (x = 0 ∧ 0 < k) by omega)
                clear h9 h0 hx0
                go_wp2_with fail
                all_goals go_ret
                all_goals
                  have e : numTo p = (V + 128 ^ k * (x % 128), p.drop (k + 1), false) := by unfold numTo; rw [rd_ret h10 Hr.out Hd.out (by rw [Hx.out]; exact HX.out.1) (by rw [Hx.out]; exact HX.out.2.1) (by rw [Hx.out]; exact HX.out.2.2), Hx.out]
                  rw [e, ← num_step k V x (by omega) hb Hv.out (by have := HX.out; omega)]
                  refine ⟨rfl, ?_, chg_setCell w g 0 _⟩
                · have hcap : cap = k + 1 := by assumption
                  have := H.out.read k hp off (.inl hcap)
                  rw [show cap - (k + 1) = 0 from by omega] at this
                  exact this
                · exact H.out.read k hp _ (.inr rfl)
              · have h0b : ((x : Int) == 0) = false := by simp; omega
                have HX := hid (show ¬ (k = 9 ∧ 1 < x) ∧ x < 128 ∧ ¬ (x = 0 ∧ 0 < k) by omega)
                clear h9 h0 hx0
                go_wp2_with fail
                all_goals go_ret
                all_goals
                  have e : numTo p = (V + 128 ^ k * (x % 128), p.drop (k + 1), false) := by unfold numTo; rw [rd_ret h10 Hr.out Hd.out (by rw [Hx.out]; exact HX.out.1) (by rw [Hx.out]; exact HX.out.2.1) (by rw [Hx.out]; exact HX.out.2.2), Hx.out]
                  rw [e, ← num_step k V x (by omega) hb Hv.out (by have := HX.out; omega)]
                  refine ⟨rfl, ?_, chg_setCell w g 0 _⟩
                · have hcap : cap = k + 1 := by assumption
                  have := H.out.read k hp off (.inl hcap)
                  rw [show cap - (k + 1) = 0 from by omega] at this
                  exact this
                · exact H.out.read k hp _ (.inr rfl)
          · have h128' : ¬ ((x : Int) < 128) := by omega
            go_wp2_with fail
            rw [num_step k V x (by omega) hb Hv.out (by omega)]
            have R1 : EyeRel p (.int .u64 ((V + 128 ^ k * (x % 128) : Nat) : Int)) (.int .i64 ((k : Int) + 1)) := by
              have e : valL (p.take (k + 1)) = V + 128 ^ k * (x % 128) := by
                rw [Ht.out, valL_snoc, HV.out, Hx.out, List.length_take, Nat.min_eq_left (by omega)]
              refine ⟨k + 1, by omega, by omega, by go_num, by rw [e], ?_, ?_⟩
              · rw [e, Nat.pow_succ]
                have h1 : 128 ^ k * (x % 128) ≤ 128 ^ k * 127 := Nat.mul_le_mul_left _ (by omega)
                have := Hv.out
                omega
              · rw [rd_next h10 Hr.out Hd.out (by rw [Hx.out]; omega) (by rw [Hx.out]; omega), e, Hx.out]
            refine ⟨?_, by simp [intOf]; omega⟩
            first | exact R1 | ((repeat apply Exists.intro); refine ⟨R1, ?_⟩; and_intros <;> rfl)
      · obtain rfl : k = p.length := by omega
        go_wp2_with fail
        refine (fail_calls w B g p he.out).mono ?_
        rintro e w' ⟨rfl, hE, hC⟩
        go_wp2_with fail
        go_ret
        have e : numTo p = (0, [], true) := by unfold numTo; rw [Hr.out, List.drop_length]; rfl
        rw [e]
        exact ⟨rfl, hE, hC⟩
    · obtain rfl : k = 10 := by omega
      go_wp2_with fail
      refine (fail_calls w B g p he.out).mono ?_
      rintro e w' ⟨rfl, hE, hC⟩
      go_wp2_with fail
      go_ret
      have e : numTo p = (0, [], true) := by
        unfold numTo
        rw [Hr.out]
        have : rd 10 (p.drop 10) = none := by
          cases p.drop 10 with
          | nil => rfl
          | cons b r => rw [rd, if_pos (by decide)]
        rw [this]
        rfl
      rw [e]
      exact ⟨rfl, hE, hC⟩
end Go.Proofs.YtmmcmldcbdaooaaDoor
