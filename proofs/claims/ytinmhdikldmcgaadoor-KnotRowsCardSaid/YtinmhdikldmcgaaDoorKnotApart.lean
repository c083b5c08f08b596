/- The walk of KnotApart: two texts of one length that are apart within 32 bits that follow one another have unlike sums. -/
import Derived.Test.YtinmhdikldmcgaaDoorKnotE
namespace Go.Proofs.YtinmhdikldmcgaaDoor
open Go.RowKit Go.Quad _root_.Quad

theorem cut600 {w : World} {a : Option Addr} {cap : Nat} {l : List UInt8} (h : BS w a cap l) (m : Nat) : ∃ (L : List UInt8) (n : Nat), L.length = n ∧ n ≤ m ∧ BS w a cap L ∧ ((l.length ≤ m ∧ n = l.length) ∨ (m < l.length ∧ n = m)) := by
  by_cases hs : l.length ≤ m
  · exact ⟨l, _, rfl, hs, h, .inl ⟨hs, rfl⟩⟩
  · exact ⟨l.take m, m, by rw [List.length_take]; omega, Nat.le_refl _, h.take m, .inr ⟨by omega, rfl⟩⟩

theorem nat_of_u16 {n : Int} (h : (Lit.int .u16 n).wf = true) : ∃ k : Nat, n = k ∧ k ≤ 65535 := by
  simp [Lit.wf, IntKind.min, IntKind.max, IntKind.signed, IntKind.bits] at h
  exact ⟨n.toNat, by omega, by omega⟩
theorem nat_of_u32 {n : Int} (h : (Lit.int .u32 n).wf = true) : ∃ k : Nat, n = k ∧ k < 4294967296 := by
  simp [Lit.wf, IntKind.min, IntKind.max, IntKind.signed, IntKind.bits] at h
  exact ⟨n.toNat, by omega, by omega⟩
theorem nat_of_u8 {n : Int} (h : (Lit.int .u8 n).wf = true) : ∃ k : Nat, n = k ∧ k < 256 := by
  simp [Lit.wf, IntKind.min, IntKind.max, IntKind.signed, IntKind.bits] at h
  exact ⟨n.toNat, by omega, by omega⟩

theorem or_one (p : Nat) (h : p < 4294967296) : bits .or .u32 (p : Int) 1 = ((p ||| 1 : Nat) : Int) := u32_or_nat p 1 h (by decide)

set_option maxHeartbeats 1000000 in
theorem knotApart_walk (a : Option Addr) (cap : Nat) (l : List UInt8) (x y : Int) (w : World) (h : BS w a cap l) (hx : (Lit.int .u16 x).wf = true) (hy : (Lit.int .u32 y).wf = true) (hq : Laid w) :
    Calls Tryd.prog 4 #[.slice a l.length cap, .int .u16 x, .int .u32 y] w fun e w' => e = .returned (.bool true) ∧ Below w.heap.size w w' := by
  obtain ⟨at', rfl, hat⟩ := nat_of_u16 hx
  obtain ⟨pat, rfl, hpat⟩ := nat_of_u32 hy
  have hl := h.max'
  have hf := h.fit'
  by_cases h0 : l.length = 0
  · have hl0 : l = [] := List.eq_nil_of_length_eq_zero h0
    subst hl0
    clear h hx hy hl hf h0
    go_enter Tryd.func4, Tryd.ntmps4
    go_wp2_with fail
    refine (awake_calls w hq).mono ?_
    rintro e w1 ⟨rfl, hb1⟩
    have Hb1 := hid hb1
    have Hq1 := hid (hq.below hb1 hq.1)
    clear hb1 hq
    go_wp2_with fail
    refine (awake_calls w1 Hq1.out).mono ?_
    rintro e w2 ⟨rfl, hb2⟩
    have Hb2 := hid hb2
    clear hb2
    go_wp2_with fail
    go_ret
    exact ⟨rfl, Hb1.out.trans (Hb2.out.mono Hb1.out.size)⟩
  obtain ⟨L, n, hL, hn, hB, hcase⟩ := cut600 h 600
  have hn0 : 0 < n := by rcases hcase with ⟨_, rfl⟩ | ⟨_, rfl⟩ <;> omega
  have HL := hid hL
  have Hn := hid hn
  have Hn0 := hid hn0
  have H := hid hB
  have Hq := hid hq
  have hor := or_one pat hpat
  have Hpat := hid (show (pat ||| 1) < 4294967296 from Nat.or_lt_two_pow (n := 32) hpat (by decide))
  have hat' : (at' : Int) ≤ 65535 := by omega
  have hz : ((l.length : Int) == 0) = false := by rw [beq_eq_false_iff_ne]; omega
  have hpos : 0 < l.length := by omega
  have hcase' : (l.length ≤ 600 ∧ n = l.length ∧ Kept (((at' % (8 * n) : Nat) : Int) = (at' : Int) % (8 * (l.length : Int)))) ∨ (600 < l.length ∧ n = 600 ∧ Kept (((at' % (8 * n) : Nat) : Int) = (at' : Int) % 4800)) := by
    rcases hcase with ⟨h1, rfl⟩ | ⟨h1, rfl⟩
    · exact .inl ⟨h1, rfl, ⟨by simp⟩⟩
    · exact .inr ⟨h1, rfl, ⟨by simp⟩⟩
  have Hne := hid (crc_apart (at' % (8 * n)) (pat ||| 1) L (by rw [hL]; exact Nat.mod_lt _ (by omega)) (or_one_bit pat))
  have hmod : at' % (8 * n) ≤ 10000000 := Nat.le_trans (Nat.mod_le at' (8 * n)) (by omega)
  have Hmod := hid hmod
  clear h hq hL hn hB hx hy hpat hcase hn0 h0 hmod
  rcases hcase' with ⟨hs, rfl, E⟩ | ⟨hs, rfl, E⟩
  all_goals
    go_enter Tryd.func4, Tryd.ntmps4
    go_wp2_with fail
    refine (awake_calls w Hq.out).mono ?_
    rintro e w1 ⟨rfl, hb1⟩
    have Hb1 := hid hb1
    have Hq1 := hid (Hq.out.below hb1 Hq.out.1)
    clear hb1
    go_wp2_with fail
    have tn := turn_calls a cap L _ _ w1 (H.out.below Hb1.out) (by have := HL.out; have := Hn.out; omega) Hmod.out Hpat.out
    rw [HL.out, E.out] at tn
    refine tn.mono ?_
    rintro e w2 ⟨v2, rfl, ho2, hb2⟩
    clear tn
    obtain ⟨a2, c2, rfl, hs2, _⟩ := ho2.bs
    have Hb2 := hid hb2
    have Hs2 := hid hs2
    have Hq2 := hid (Hq1.out.below hb2 Hq1.out.1)
    clear hb2 ho2 hs2
    go_wp2_with fail
    refine (sum_calls _ _ _ _ Hs2.out Hq2.out).mono ?_
    rintro e w' ⟨rfl, rfl⟩
    go_wp2_with fail
    have sm := sum_calls a cap L w2 ((H.out.below Hb1.out).below Hb2.out) Hq2.out
    rw [HL.out] at sm
    refine sm.mono ?_
    rintro e w' ⟨rfl, rfl⟩
    clear sm
    have hne : ¬ ((crc (turnN (at' % (8 * _)) (pat ||| 1) 32 L)).toNat = (crc L).toNat) := fun e => Hne.out (BitVec.eq_of_toNat_eq e)
    generalize (crc L).toNat = C at hne
    generalize (crc (turnN (at' % (8 * _)) (pat ||| 1) 32 L)).toNat = C' at hne
    have hne' : (((C' : Nat) : Int) != ((C : Nat) : Int)) = true := by simp; omega
    go_wp2_with fail
    go_ret
    exact ⟨rfl, Hb1.out.trans (Hb2.out.mono Hb1.out.size)⟩
end Go.Proofs.YtinmhdikldmcgaaDoor
