/- The walks of layer 2: marked room behind bytes, the document's example, bits turned, a whole knot, the reference's knot. -/
import Derived.Test.YtmmcmldcbdaooaaDoorKnotB
import Derived.Test.YtmmcmldcbdaooaaDoorKnotC
import Derived.Lib.SlBytesConst
namespace Go.Proofs.YtmmcmldcbdaooaaDoor
open Go.RowKit Go.Quad _root_.Quad

/-! ### bits turned -/
def turnAt (l : List UInt8) (k : Nat) : List UInt8 := l.set (k / 8) (l.getD (k / 8) 0 ^^^ (1 <<< (UInt8.ofNat (k % 8))))
/-- the first i bits of a pattern, laid from a bit on -/
def turnN (at' : Nat) (pat : Nat) : Nat → List UInt8 → List UInt8
  | 0, l => l
  | i + 1, l => if pat.testBit i && decide (at' + i < 8 * l.length) then turnAt (turnN at' pat i l) (at' + i) else turnN at' pat i l

theorem turnAt_length (l : List UInt8) (k : Nat) : (turnAt l k).length = l.length := by simp [turnAt]
theorem turnN_length (at' pat : Nat) : ∀ (i : Nat) (l : List UInt8), (turnN at' pat i l).length = l.length
  | 0, _ => rfl
  | i + 1, l => by
    simp only [turnN]
    split
    · rw [turnAt_length, turnN_length at' pat i]
    · exact turnN_length at' pat i l

theorem map_u8_set {l : List UInt8} {j : Nat} {c : UInt8} : (l.map u8v).set j (u8v c) = (l.set j c).map u8v := by rw [List.map_set]
theorem map_u8_get {l : List UInt8} {j : Nat} (h : j < l.length) : (l.map u8v)[j]? = some (u8v (l.getD j 0)) := by
  rw [List.getElem?_map, List.getElem?_eq_getElem h, List.getD_eq_getElem?_getD, List.getElem?_eq_getElem h]; rfl

theorem xor_shift (c : UInt8) (j : Nat) (hj : j < 8) : bits .xor .u8 (c.toNat : Int) ((2 : Int) ^ j % 256) = (((c ^^^ (1 <<< (UInt8.ofNat j))).toNat : Nat) : Int) := by
  have h2 : 2 ^ j < 256 := Nat.lt_of_lt_of_le (Nat.pow_lt_pow_right (by omega) hj) (by decide)
  have h3 : (2 : Int) ^ j % 256 = ((2 ^ j : Nat) : Int) := by
    have e : (2 : Int) ^ j = ((2 ^ j : Nat) : Int) := by simp
    rw [e]
    generalize 2 ^ j = n at h2
    omega
  rw [h3]
  rw [u8_xor_nat _ _ c.toNat_lt h2, UInt8.toNat_xor]
  congr 2
  have : ∀ j : Fin 8, 2 ^ j.val = (1 <<< (UInt8.ofNat j.val) : UInt8).toNat := by decide
  exact this ⟨j, hj⟩

def TurnRel (pat at' : Nat) (l : List UInt8) (v5 : Value) (w : World) (p i : Value) (wr : World) : Prop :=
  ∃ k : Nat, k ≤ 32 ∧ i = .int .i64 k ∧ p = .int .u32 ((pat / 2 ^ k : Nat) : Int) ∧ OB wr w.heap.size 5 v5 (turnN at' pat k l) ∧ Below w.heap.size w wr

set_option maxHeartbeats 400000 in
theorem turn_calls (a : Option Addr) (cap : Nat) (l : List UInt8) (at' pat : Nat) (w : World) (h : BS w a cap l) (hn : l.length ≤ 1000000) (hat : at' ≤ 10000000) (hp : pat < 4294967296) :
    Calls Tryd.prog 25 #[.slice a l.length cap, .int .i64 (at' : Int), .int .u32 (pat : Int)] w (RetB w.heap.size w (turnN at' pat 32 l)) := by
  have hown := OB.empty w
  have hsrc := h.below (below_alloc w (.cells #[] 5))
  have Hn := hid hn
  have Hb := hid (below_alloc w (.cells #[] 5))
  clear h hn
  go_enter Tryd.func25, Tryd.ntmps25
  go_wp2_with (at_builtin; refine wpList_append_b (.tmp 10) (.tmp 11) _ rfl rfl _ 5 info_u8 under_bytes _ _ hown rfl hsrc rfl (by have := Hn.out; simpa using Nat.le_trans this (by decide)) (by simp) ?_; intro v5 w1 hown1 hg1 hb1 _)
  obtain ⟨a5, c5, rfl, hs5, ho5⟩ := OB.bs hown1
  rw [List.nil_append] at hown1
  have hb1' := Hb.out.trans hb1
  clear hg1 hb1 hown hsrc
  have Hlen := hid (turnN_length at' pat)
  go_loopw [2, 8, 9, 13] (fun p _ _ i wr => TurnRel pat at' l (.slice a5 l.length c5) w p i wr) (fun _ _ _ i _ => 32 - (intOf i).toNat)
  case atStart => exact ⟨0, by omega, rfl, by simp, hown1, hb1'⟩
  case round =>
    clear hown1 hb1'
    obtain ⟨k, hk, rfl, rfl, hown, hb⟩ := hrel
    by_cases hlt : k < 32
    · have e2 : pat / 2 ^ (k + 1) = pat / 2 ^ k / 2 := by rw [Nat.pow_succ, Nat.div_div_eq_div_mul]
      have e1 : pat.testBit k = decide (pat / 2 ^ k % 2 = 1) := Nat.testBit_eq_decide_div_mod_eq
      have hpk : pat / 2 ^ k < 4294967296 := Nat.lt_of_le_of_lt (Nat.div_le_self _ _) hp
      generalize hq : pat / 2 ^ k = q at e1 e2 hpk
      have E2 := hid e2
      have E1 := hid e1
      have Hq := hid hq
      have hpk' : ¬ ((4294967295 : Int) < (q : Int)) := by omega
      have hat2 : (at' : Int) ≤ 10000000 := by omega
      have hn2 : (l.length : Int) ≤ 1000000 := by have := Hn.out; omega
      clear e2 e1 hpk hq
      have step0 : ¬ (q % 2 = 1 ∧ at' + k < 8 * l.length) → turnN at' pat (k + 1) l = turnN at' pat k l := by
        intro hno
        simp only [turnN]
        rw [if_neg]
        rw [E1.out]
        simpa using hno
      have Hs0 := hid step0
      clear step0
      by_cases hodd : q % 2 = 1
      · have ho1 : (((q : Int) % 2) == 1) = true := by simp; omega
        by_cases hin : at' + k < 8 * l.length
        · have hin' : (at' : Int) + (k : Int) < 8 * (l.length : Int) := by omega
          obtain ⟨b5, off5, rfl, _⟩ := hs5.at (by simp; omega)
          obtain ⟨rfl, _, hbb, _⟩ := ho5 _ rfl
          have hTl := turnN_length at' pat k l
          have hown' : wr.ownsRow w.heap.size 5 1 (.slice (some ⟨b5, 0, none⟩) l.length c5) l.length ((turnN at' pat k l).map u8v) := by
            have := hown; unfold OB at this; rwa [hTl] at this
          have hst : turnN at' pat (k + 1) l = turnAt (turnN at' pat k l) (at' + k) := by
            simp only [turnN]
            rw [if_pos]
            rw [E1.out, decide_eq_true hodd, decide_eq_true hin, Bool.and_self]
          obtain ⟨hc1, hf1⟩ := row_at hown' ((at' + k) / 8) (by omega) (map_u8_get (by omega))
          have Hs := hid (row_store hown' ((at' + k) / 8) (u8v ((turnN at' pat k l).getD ((at' + k) / 8) 0 ^^^ (1 <<< (UInt8.ofNat ((at' + k) % 8))))))
          rw [map_u8_set, show (turnN at' pat k l).set ((at' + k) / 8) ((turnN at' pat k l).getD ((at' + k) / 8) 0 ^^^ (1 <<< (UInt8.ofNat ((at' + k) % 8)))) = turnN at' pat (k + 1) l from hst.symm] at Hs
          have hxor := xor_shift ((turnN at' pat k l).getD ((at' + k) / 8) 0) ((at' + k) % 8) (by omega)
          generalize (turnN at' pat k l).getD ((at' + k) / 8) 0 = c at hc1 Hs hxor
          unfold u8v at hc1 Hs
          have hcb : ((c.toNat : Nat) : Int) ≤ 255 := by have := c.toNat_lt; omega
          have hk8 : ((at' : Int) + (k : Int)) / 8 < (l.length : Int) := by omega
          have Hxor := hid hxor
          have Hb := hid hb
          clear hst hown hown' hTl hodd hs5 ho5 hxor hb
          go_wp2_with fail
          have R : TurnRel pat at' l (.slice (some ⟨b5, 0, none⟩) l.length c5) w (.int .u32 ((q : Int) / 2)) (.int .i64 ((k : Int) + 1)) (wr.setCell ⟨b5, (at' + k) / 8, none⟩ (.int .u8 (bits .xor .u8 (c.toNat : Int) (2 ^ ((at' + k) % 8) % 256)))) := by
            refine ⟨k + 1, by omega, by go_num, by rw [E2.out]; rfl, ?_, ?_⟩
            · rw [Hxor.out]
              have := Hs.out.1
              unfold OB
              rwa [turnN_length]
            · rw [Hxor.out]
              exact Hb.out.trans Hs.out.2
          refine ⟨?_, by simp [intOf]; omega⟩
          first | exact R | ((repeat apply Exists.intro); refine ⟨R, ?_⟩; and_intros <;> rfl)
        · have hin' : ¬ ((at' : Int) + (k : Int) < 8 * (l.length : Int)) := by omega
          have Hs := hid (Hs0.out (fun h => hin h.2))
          clear hodd
          go_wp2_with fail
          have R : TurnRel pat at' l (.slice a5 l.length c5) w (.int .u32 ((q : Int) / 2)) (.int .i64 ((k : Int) + 1)) wr :=
            ⟨k + 1, by omega, by go_num, by rw [E2.out]; rfl, by rw [Hs.out]; exact hown, hb⟩
          refine ⟨?_, by simp [intOf]; omega⟩
          first | exact R | ((repeat apply Exists.intro); refine ⟨R, ?_⟩; and_intros <;> rfl)
      · have ho1 : (((q : Int) % 2) == 1) = false := by simp; omega
        have Hs := hid (Hs0.out (fun h => hodd h.1))
        clear hodd
        go_wp2_with fail
        have R : TurnRel pat at' l (.slice a5 l.length c5) w (.int .u32 ((q : Int) / 2)) (.int .i64 ((k : Int) + 1)) wr :=
          ⟨k + 1, by omega, by go_num, by rw [E2.out]; rfl, by rw [Hs.out]; exact hown, hb⟩
        refine ⟨?_, by simp [intOf]; omega⟩
        first | exact R | ((repeat apply Exists.intro); refine ⟨R, ?_⟩; and_intros <;> rfl)
    · obtain rfl : k = 32 := by omega
      go_wp2_with fail
      go_ret
      exact ⟨_, rfl, hown, hb⟩
end Go.Proofs.YtmmcmldcbdaooaaDoor
