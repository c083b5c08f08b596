/- The walks of layer 6: a number as four bytes, and back. -/
import Derived.Test.YtoapibbbooongaaDoorBlkMath
import Derived.Test.YtoapibbbooongaaDoorRowOps
import Derived.Test.YtoapibbbooongaaDoorKnotA
import Derived.Deep.QuietTactic
import Derived.BigQuiet
namespace Go.Proofs.YtoapibbbooongaaDoor
open Go.RowKit Go.Quad _root_.Quad _root_.Quad.Slab

def fourV (v : Nat) : List Value := [.int .u8 ((v : Int) % 256), .int .u8 ((v : Int) / 256 % 256), .int .u8 ((v : Int) / 65536 % 256), .int .u8 ((v : Int) / 16777216)]
theorem splice_next (cs l : List Value) (off : Nat) (x : Value) (h : off + l.length < cs.length) : (splice cs off l).set (off + l.length) x = splice cs off (l ++ [x]) := by
  unfold splice
  rw [List.set_append_right _ _ (by simp; omega)]
  have e : off + l.length - (cs.take off).length = l.length := by rw [List.length_take]; omega
  rw [e, List.set_append_right _ _ (by omega), Nat.sub_self, List.drop_eq_getElem_cons (l := cs) (i := off + l.length) h, List.set_cons_zero]
  simp only [List.append_assoc, List.cons_append, List.nil_append, List.length_append, List.length_cons, List.length_nil]
  rfl
def P4Rel (v : Nat) (cs : List Value) (b off : Nat) (t : TypeId) (w : World) (iv : Value) (wr : World) : Prop :=
  ∃ k : Nat, iv = .int .i64 (k : Int) ∧ k ≤ 4 ∧ Blk wr b (splice cs off ((fourV v).take k)) t ∧ Chg [b] w wr

set_option maxHeartbeats 1000000 in
theorem put4_calls (v b off n c : Nat) (cs : List Value) (t : TypeId) (w : World) (h : Blk w b cs t) (hv : v < 4294967296) (hn : 4 ≤ n) (ho : off + 4 ≤ cs.length) (hm : n ≤ 1000000) :
    Calls Tryd.prog 108 #[.slice (some ⟨b, off, none⟩) n c, .int .u32 (v : Int)] w fun e w' => e = .returned (.tuple #[]) ∧ Blk w' b (splice cs off (fourV v)) t ∧ Chg [b] w w' := by
  have H := hid h
  have hv' : (v : Int) ≤ 4294967295 := by omega
  have hn' : (4 : Int) ≤ (n : Int) := by omega
  have hm' : (n : Int) ≤ 1000000 := by omega
  clear h
  go_enter Tryd.func108, Tryd.ntmps108
  go_wp2_with fail
  go_loopw [4, 5] (fun _ iv wr => P4Rel v cs b off t w iv wr) (fun _ iv _ => 4 - (intOf iv).toNat)
  case atStart => exact ⟨0, rfl, Nat.zero_le _, by simpa [splice] using H.out, Chg.refl _ _⟩
  case round =>
    obtain ⟨k, rfl, hk, hz, hc⟩ := hrel
    have Z := hid hz
    have C := hid hc
    clear hz hc
    by_cases hlt : k < 4
    · have hk' : (k : Int) < 4 := by omega
      have hx : ∃ x, (splice cs off ((fourV v).take k))[off + k]? = some x := ⟨_, List.getElem?_eq_getElem (by unfold splice; simp [fourV]; omega)⟩
      obtain ⟨x, hx⟩ := hx
      have d := Z.out.get (off + k) hx
      have f := Z.out.free (off + k)
      have hkk : k = 0 ∨ k = 1 ∨ k = 2 ∨ k = 3 := by omega
      clear hx
      rcases hkk with rfl | rfl | rfl | rfl
      · rw [Nat.add_zero] at d f
        go_wp2_with fail
        have hs := Z.out.set (off) (.int .u8 ((v : Int) % 256))
        have hsp : (splice cs off ((fourV v).take 0)).set (off) (.int .u8 ((v : Int) % 256)) = splice cs off ((fourV v).take 1) := splice_next cs ((fourV v).take 0) off (.int .u8 ((v : Int) % 256)) (by simp [fourV]; omega)
        rw [hsp] at hs
        have R : P4Rel v cs b off t w (.int .i64 1) (wr.setCell ⟨b, off, none⟩ (.int .u8 ((v : Int) % 256))) := ⟨1, rfl, by omega, hs, C.out.trans (chg_setCell wr b (off) _)⟩
        refine ⟨?_, by simp [intOf]⟩
        first | exact R | ((repeat apply Exists.intro); refine ⟨R, ?_⟩; and_intros <;> rfl)
      · go_wp2_with fail
        have hs := Z.out.set (off + 1) (.int .u8 ((v : Int) / 256 % 256))
        have hsp : (splice cs off ((fourV v).take 1)).set (off + 1) (.int .u8 ((v : Int) / 256 % 256)) = splice cs off ((fourV v).take 2) := splice_next cs ((fourV v).take 1) off (.int .u8 ((v : Int) / 256 % 256)) (by simp [fourV]; omega)
        rw [hsp] at hs
        have R : P4Rel v cs b off t w (.int .i64 2) (wr.setCell ⟨b, off + 1, none⟩ (.int .u8 ((v : Int) / 256 % 256))) := ⟨2, rfl, by omega, hs, C.out.trans (chg_setCell wr b (off + 1) _)⟩
        refine ⟨?_, by simp [intOf]⟩
        first | exact R | ((repeat apply Exists.intro); refine ⟨R, ?_⟩; and_intros <;> rfl)
      · go_wp2_with fail
        have hs := Z.out.set (off + 2) (.int .u8 ((v : Int) / 65536 % 256))
        have hsp : (splice cs off ((fourV v).take 2)).set (off + 2) (.int .u8 ((v : Int) / 65536 % 256)) = splice cs off ((fourV v).take 3) := splice_next cs ((fourV v).take 2) off (.int .u8 ((v : Int) / 65536 % 256)) (by simp [fourV]; omega)
        rw [hsp] at hs
        have R : P4Rel v cs b off t w (.int .i64 3) (wr.setCell ⟨b, off + 2, none⟩ (.int .u8 ((v : Int) / 65536 % 256))) := ⟨3, rfl, by omega, hs, C.out.trans (chg_setCell wr b (off + 2) _)⟩
        refine ⟨?_, by simp [intOf]⟩
        first | exact R | ((repeat apply Exists.intro); refine ⟨R, ?_⟩; and_intros <;> rfl)
      · go_wp2_with fail
        have hs := Z.out.set (off + 3) (.int .u8 ((v : Int) / 16777216))
        have hsp : (splice cs off ((fourV v).take 3)).set (off + 3) (.int .u8 ((v : Int) / 16777216)) = splice cs off ((fourV v).take 4) := splice_next cs ((fourV v).take 3) off (.int .u8 ((v : Int) / 16777216)) (by simp [fourV]; omega)
        rw [hsp] at hs
        have R : P4Rel v cs b off t w (.int .i64 4) (wr.setCell ⟨b, off + 3, none⟩ (.int .u8 ((v : Int) / 16777216))) := ⟨4, rfl, by omega, hs, C.out.trans (chg_setCell wr b (off + 3) _)⟩
        refine ⟨?_, by simp [intOf]⟩
        first | exact R | ((repeat apply Exists.intro); refine ⟨R, ?_⟩; and_intros <;> rfl)
    · have hk' : ¬ ((k : Int) < 4) := by omega
      obtain rfl : k = 4 := by omega
      go_wp2_with fail
      refine bodyPost_end (results_none rfl _ _ _) rfl ?_
      exact ⟨rfl, Z.out, C.out⟩

theorem fourV_le4 (v : Nat) (h : v < 4294967296) : fourV v = (le4 v).map u8v := by
  unfold fourV le4
  simp only [List.map_cons, List.map_nil, u8v, UInt8.toNat_ofNat']
  have e : v / 16777216 % 2 ^ 8 = v / 16777216 := Nat.mod_eq_of_lt (by omega)
  rw [e]
  rfl

theorem or_add (a b k : Nat) (h : a < 2 ^ k) : a ||| b * 2 ^ k = a + 2 ^ k * b := by
  rw [Nat.or_comm, Nat.mul_comm b, ← Nat.two_pow_add_eq_or_of_lt h, Nat.add_comm]
theorem or_four (x0 x1 x2 x3 : Nat) (h0 : x0 < 256) (h1 : x1 < 256) (h2 : x2 < 256) (h3 : x3 < 256) :
    bits .or .u32 (bits .or .u32 (bits .or .u32 (x0 : Int) ((x1 : Int) * 256)) ((x2 : Int) * 65536)) ((x3 : Int) * 16777216) = ((x0 + 256 * x1 + 65536 * x2 + 16777216 * x3 : Nat) : Int) := by
  have e1 : ((x1 : Int) * 256) = ((x1 * 256 : Nat) : Int) := by simp
  have e2 : ((x2 : Int) * 65536) = ((x2 * 65536 : Nat) : Int) := by simp
  have e3 : ((x3 : Int) * 16777216) = ((x3 * 16777216 : Nat) : Int) := by simp
  have o1 : x0 ||| x1 * 256 = x0 + 256 * x1 := or_add x0 x1 8 h0
  have o2 : (x0 + 256 * x1) ||| x2 * 65536 = (x0 + 256 * x1) + 65536 * x2 := or_add _ x2 16 (by omega)
  have o3 : (x0 + 256 * x1 + 65536 * x2) ||| x3 * 16777216 = (x0 + 256 * x1 + 65536 * x2) + 16777216 * x3 := or_add _ x3 24 (by omega)
  rw [e1, e2, e3, u32_or_nat _ _ (by omega) (by omega), o1, u32_or_nat _ _ (by omega) (by omega), o2, u32_or_nat _ _ (by omega) (by omega), o3]
theorem get4L_get (p : List UInt8) (h : 4 ≤ p.length) : get4L p = p[0].toNat + 256 * p[1].toNat + 65536 * p[2].toNat + 16777216 * p[3].toNat := by
  match p, h with
  | a :: b :: c :: d :: r, _ => rfl
set_option maxHeartbeats 1000000 in
theorem get4_calls (a : Option Addr) (n c : Nat) (p : List UInt8) (w : World) (h : BS w a c p) (hn : p.length = n) (h4 : 4 ≤ p.length) :
    Calls Tryd.prog 83 #[.slice a n c] w fun e w' => e = .returned (.int .u32 (get4L p : Int)) ∧ Below w.heap.size w w' := by
  have hm := h.max'
  obtain ⟨b, off, rfl, hc⟩ := h.at (by omega)
  have c0 := hc 0 (by omega)
  have c1 := hc 1 (by omega)
  have c2 := hc 2 (by omega)
  have c3 := hc 3 (by omega)
  have hn' : (4 : Int) ≤ (n : Int) := by omega
  have hx := get4L_get p h4
  rw [hx]
  have b0 := p[0].toNat_lt; have b1 := p[1].toNat_lt; have b2 := p[2].toNat_lt; have b3 := p[3].toNat_lt
  generalize p[0].toNat = x0 at c0 b0 ⊢
  generalize p[1].toNat = x1 at c1 b1 ⊢
  generalize p[2].toNat = x2 at c2 b2 ⊢
  generalize p[3].toNat = x3 at c3 b3 ⊢
  clear hc h hx
  go_enter Tryd.func83, Tryd.ntmps83
  have b0' : (x0 : Int) ≤ 255 := by omega
  have b1' : (x1 : Int) ≤ 255 := by omega
  have b2' : (x2 : Int) ≤ 255 := by omega
  have b3' : (x3 : Int) ≤ 255 := by omega
  rw [Nat.add_zero] at c0
  go_wp2_with fail
  go_quiet (fail)
  go_wp2_with fail
  go_ret
  refine ⟨?_, below_drewN (Below.refl _ _) _⟩
  rw [or_four x0 x1 x2 x3 b0 b1 b2 b3]
  rfl

/-! ### are all of them noughts? -/
def slLen : Value → Nat
  | .slice _ n _ => n
  | _ => 0
def tlRel (c0 : Nat) (p : List UInt8) (w : World) (sv : Value) (wr : World) : Prop :=
  wr = w ∧ ∃ (a : Option Addr) (c k : Nat), k ≤ p.length ∧ sv = .slice a (p.length - k) c ∧ BS w a c (p.drop k) ∧ (p.take k).all (· == UInt8.ofNat c0) = true
set_option maxHeartbeats 1000000 in
theorem trimLeft_calls (a : Option Addr) (c n : Nat) (p : List UInt8) (w : World) (h : BS w a c p) (hn : p.length = n) :
    Calls Tryd.prog 122 #[.slice a n c, .int .u8 0] w fun e w' => ∃ a' m c', e = .returned (.slice a' m c') ∧ (m = 0 ↔ p.all (· == 0) = true) ∧ w = w' := by
  have H := hid h
  have hm := h.max'
  subst hn
  clear h
  go_enter Tryd.func122, Tryd.ntmps122
  go_wp2_with fail
  go_loopw [0] (fun sv wr => tlRel 0 p w sv wr) (fun sv _ => slLen sv)
  case atStart => exact ⟨rfl, a, c, 0, Nat.zero_le _, rfl, H.out, rfl⟩
  case round =>
    obtain ⟨rfl, a1, c1, k, hk, rfl, hb, hall⟩ := hrel
    have B := hid hb
    have A := hid hall
    clear hb hall
    obtain ⟨m, hm'⟩ : ∃ m, p.length - k = m := ⟨_, rfl⟩
    have hlen : (p.drop k).length = m := by rw [List.length_drop]; exact hm'
    have hf := B.out.fit'
    have hmx := B.out.max'
    rw [hlen] at hf hmx
    rw [hm']
    by_cases h0 : m = 0
    · subst h0
      have hz := hid (show p.all (· == 0) = true from by have := A.out; rwa [List.take_of_length_le (by omega)] at this)
      clear hf hmx hlen hm'
      go_wp2_with fail
      go_ret
      exact ⟨none, 0, 0, rfl, by simp [hz.out], rfl⟩
    · have h0' : (0 : Int) < (m : Int) := by omega
      obtain ⟨b, off, rfl, hc⟩ := B.out.at (by omega)
      have d := hc 0 (by omega)
      rw [Nat.add_zero, List.getElem_drop] at d
      simp only [Nat.add_zero] at d
      have hx := hid (show p.take (k + 1) = p.take k ++ [p[k]'(by omega)] from List.take_succ_eq_append_getElem (by omega))
      have hmem := hid (show p[k]'(by omega) ∈ p from List.getElem_mem _)
      obtain ⟨x, hxe⟩ : ∃ x : UInt8, p[k]'(by omega) = x := ⟨_, rfl⟩
      rw [hxe] at d hx hmem
      clear hc
      by_cases hz : x = 0
      · subst hz
        have hs := B.out
        go_wp2_with (refine wpList_cut _ (.tmp 15) (some (.const (.int .i64 1))) none rfl rfl 5 info_u8 under_bytes rfl hs 1 m (.inl rfl) (.inr ⟨rfl, rfl⟩) (by omega) hf ?_; intro a8 hs8)
        have R : tlRel 0 p wr (.slice a8 (m - 1) (c1 - 1)) wr := ⟨rfl, a8, c1 - 1, k + 1, by omega, by rw [show p.length - (k + 1) = m - 1 from by omega], by rw [List.drop_drop] at hs8; exact hs8, by rw [hx.out, List.all_append, A.out]; rfl⟩
        refine ⟨?_, by simp only [slLen]; omega⟩
        first | exact R | ((repeat apply Exists.intro); refine ⟨R, ?_⟩; and_intros <;> rfl)
      · have hxz : ((x.toNat : Int) == 0) = false := by
          have : x.toNat ≠ 0 := fun hh => hz (UInt8.toNat_inj.1 hh)
          simp; exact this
        go_wp2_with fail
        go_ret
        refine ⟨_, _, _, rfl, ⟨fun hh => (h0 hh).elim, fun hh => ?_⟩, rfl⟩
        have := List.all_eq_true.1 hh x hmem.out
        exact (hz (by simpa using this)).elim

def trRel (p : List UInt8) (w : World) (a : Option Addr) (sv : Value) (wr : World) : Prop :=
  wr = w ∧ ∃ (c k : Nat), k ≤ p.length ∧ sv = .slice a k c ∧ BS w a c (p.take k) ∧ (p.drop k).all (· == 0) = true
set_option maxHeartbeats 1000000 in
theorem trimRight_calls (a : Option Addr) (c n : Nat) (p : List UInt8) (w : World) (h : BS w a c p) (hn : p.length = n) :
    Calls Tryd.prog 123 #[.slice a n c, .int .u8 0] w fun e w' => ∃ c' k, k ≤ p.length ∧ e = .returned (.slice a k c') ∧ BS w a c' (p.take k) ∧ (p.drop k).all (· == 0) = true ∧ w = w' := by
  have H := hid h
  have hm := h.max'
  subst hn
  clear h
  go_enter Tryd.func123, Tryd.ntmps123
  go_wp2_with fail
  go_loopw [0] (fun sv wr => trRel p w a sv wr) (fun sv _ => slLen sv)
  case atStart => exact ⟨rfl, c, p.length, Nat.le_refl _, rfl, by rw [List.take_length]; exact H.out, by simp⟩
  case round =>
    obtain ⟨rfl, c1, k, hk, rfl, hb, hall⟩ := hrel
    have B := hid hb
    have A := hid hall
    clear hb hall
    have hlen : (p.take k).length = k := by rw [List.length_take]; omega
    have hf := B.out.fit'
    have hmx := B.out.max'
    rw [hlen] at hf hmx
    by_cases h0 : k = 0
    · subst h0
      go_wp2_with fail
      go_ret
      exact ⟨c1, 0, hk, rfl, B.out, A.out, rfl⟩
    · have h0' : (0 : Int) < (k : Int) := by omega
      obtain ⟨m, rfl⟩ : ∃ m, k = m + 1 := ⟨k - 1, by omega⟩
      obtain ⟨b, off, rfl, hc⟩ := B.out.at (by omega)
      have d := hc m (by omega)
      rw [List.getElem_take] at d
      have hx := hid (show p.drop m = p[m]'(by omega) :: p.drop (m + 1) from List.drop_eq_getElem_cons (by omega))
      obtain ⟨x, hxe⟩ : ∃ x : UInt8, p[m]'(by omega) = x := ⟨_, rfl⟩
      rw [hxe] at d hx
      clear hc
      by_cases hz : x = 0
      · subst hz
        have hs := B.out
        go_wp2_with fail
        have R : trRel p wr (some ⟨b, off, none⟩) (.slice (some ⟨b, off, none⟩) m c1) wr := ⟨rfl, c1, m, by omega, rfl, by have := hs.take m; rwa [List.take_take, Nat.min_eq_left (by omega)] at this, by rw [hx.out, List.all_cons, A.out]; rfl⟩
        refine ⟨?_, by simp only [slLen]; omega⟩
        first | exact R | ((repeat apply Exists.intro); refine ⟨R, ?_⟩; and_intros <;> rfl)
      · have hxz : ((x.toNat : Int) == 0) = false := by
          have : x.toNat ≠ 0 := fun hh => hz (UInt8.toNat_inj.1 hh)
          simp; exact this
        go_wp2_with fail
        go_ret
        exact ⟨c1, m + 1, hk, rfl, B.out, A.out, rfl⟩

def TrimTo (p : List UInt8) (w : World) (e : Ending) (w' : World) : Prop := ∃ a' m c', e = .returned (.slice a' m c') ∧ (m = 0 ↔ p.all (· == 0) = true) ∧ Below w.heap.size w w'
set_option maxRecDepth 100000 in
set_option maxHeartbeats 1000000 in
theorem trim_calls (a : Option Addr) (c n : Nat) (p : List UInt8) (w : World) (h : BS w a c p) (hn : p.length = n) :
    Calls Tryd.prog 106 #[.slice a n c, .string ⟨#[0]⟩] w (TrimTo p w) := by
  have hm := h.max'
  have H := hid h
  by_cases h0 : n = 0
  · subst h0
    obtain rfl : p = [] := List.eq_nil_of_length_eq_zero hn
    clear h hm hn
    go_enter Tryd.func106, Tryd.ntmps106
    go_wp2_with fail
    go_ret
    exact ⟨none, 0, 0, rfl, by simp, Below.refl _ _⟩
  · have h0' : ((n : Int) == 0) = false := by simpa using h0
    clear h
    go_enter Tryd.func106, Tryd.ntmps106
    go_wp2_with fail
    have hB := fun nq => H.out.below (below_drewN (Below.refl w.heap.size w) nq)
    go_region_with (first | (go_at_call 123; refine (trimRight_calls a c n p _ (hB _) hn).mono ?_; rintro e w' ⟨c2, k, hk, rfl, hb2, ha2, rfl⟩; have Hb2 := hid hb2; have Ha2 := hid ha2; clear hb2 ha2) | (go_at_call 122; refine (trimLeft_calls a c2 k (p.take k) _ Hb2.out (by rw [List.length_take]; omega)).mono ?_; rintro e w' ⟨a3, m, c3, rfl, hm3, rfl⟩))
    all_goals
      have hall : p.all (· == 0) = true ↔ (p.take k).all (· == 0) = true := by
        have e : p.all (· == 0) = ((p.take k).all (· == 0) && (p.drop k).all (· == 0)) := by rw [← List.all_append, List.take_append_drop]
        rw [e, Ha2.out, Bool.and_true]
      go_wp2_with fail
      go_ret
      exact ⟨a3, m, c3, rfl, hm3.trans hall.symm, below_drewN (Below.refl _ _) _⟩

set_option maxHeartbeats 1000000 in
theorem empty_calls (a : Option Addr) (c n : Nat) (p : List UInt8) (w : World) (h : BS w a c p) (hn : p.length = n) :
    Calls Tryd.prog 85 #[.slice a n c] w fun e w' => e = .returned (.bool (p.all (· == 0))) ∧ Below w.heap.size w w' := by
  have hT := trim_calls a c n p w h hn
  go_enter Tryd.func85, Tryd.ntmps85
  go_wp2_with fail
  refine hT.mono ?_
  rintro e w' ⟨a1, m, c1, rfl, hm, hb⟩
  have hq : ((m : Int) == 0) = p.all (· == 0) := by
    rw [Bool.eq_iff_iff, beq_iff_eq]
    constructor
    · intro hh; exact hm.1 (by omega)
    · intro hh; have := hm.2 hh; omega
  dsimp only
  go_wp2_with fail
  go_ret
  exact ⟨by rw [← hq]; rfl, hb⟩
end Go.Proofs.YtoapibbbooongaaDoor
