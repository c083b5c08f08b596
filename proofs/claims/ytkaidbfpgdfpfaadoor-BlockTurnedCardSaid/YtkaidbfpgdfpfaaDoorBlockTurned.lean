/- BlockTurned: a block of which bits were turned that stand within 32 that follow one another is none any more. -/
import Derived.Test.YtkaidbfpgdfpfaaDoorBlkL
import Derived.Test.YtkaidbfpgdfpfaaDoorBlockReads
import Derived.Deep.CutBlock
namespace Go.Proofs.YtkaidbfpgdfpfaaDoor
open Go.RowKit Go.Quad _root_.Quad _root_.Quad.Slab

theorem pmin104 (n : Nat) : (if 104 < (n : Int) then 104 else (n : Int)) = ((min n 104 : Nat) : Int) := by split <;> omega
def cutX (x : BlkD) (k : Nat) : BlkD := { x with data := x.data.take k }
def BtRel (at' P : Nat) (l : List UInt8) (B : Nat) (v5 : Value) (w : World) (iv : Value) (wr : World) : Prop :=
  ∃ k : Nat, k ≤ 32 ∧ iv = .int .i64 k ∧ OB wr B 5 v5 (turnN at' P k l) ∧ Below B w wr
theorem put_read {x : BlkD} (hk : x.kind ≠ 0) (hl : x.data.length ≤ 104) : (putB (newL 1) 0 x).2 = 0 ∧ readL (putB (newL 1) 0 x).1 0 = (encB x, 0) ∧ (putB (newL 1) 0 x).1.steps < 999999 ∧ (putB (newL 1) 0 x).1.way.length < 999999 ∧ (putB (newL 1) 0 x).1.done.length = 1 ∧ (putB (newL 1) 0 x).1.off = false ∧ (stepL (putB (newL 1) 0 x).1).off = false := by
  have e := putB_yes (s := newL 1) (k := 0) (x := x) (by show 0 < 1; omega) hl hk rfl
  have e0 : ((0 : Nat) : Int) = 0 := rfl
  rw [e0] at e
  rw [e]
  refine ⟨rfl, ?_, by show 0 + 1 < 999999; omega, by show 1 < 999999; omega, rfl, rfl, rfl⟩
  have := readL_at (s := { stepL (newL 1) with way := (newL 1).way ++ [(0, encB x)] }) (i := 0) (by show 0 < 1; omega) rfl
  rw [e0] at this
  show readL { stepL (newL 1) with way := (newL 1).way ++ [(0, encB x)] } 0 = _
  rw [this]
  rfl
theorem write_get {s : Sl} (hd : s.done.length = 1) (ho : s.off = false) (ha : (stepL s).off = false) {q : Bytes} (hq : q.length = 128) : getB (writeL s 0 q).1 0 = readB q := by
  have e0 : ((0 : Nat) : Int) = 0 := rfl
  have hh : hasL s 0 q.length = 0 := by
    have := hasL_zero (s := s) (k := 0) (n := q.length) (by omega) (by omega) ho
    rwa [e0] at this
  have hw : (writeL s 0 q).1 = { stepL s with way := s.way ++ [(0, q)] } := by
    unfold writeL
    rw [hh, pad_full hq]
    rfl
  rw [hw]
  have := getB_at (s := { stepL s with way := s.way ++ [(0, q)] }) (i := 0) (by show 0 < s.done.length; omega) ha
  rw [e0] at this
  rw [this]
  congr 1
  have := seen_last (stepL s) 0 0 q
  rw [if_pos rfl] at this
  exact this
theorem or_one (n : Nat) : (n ||| 1).testBit 0 = true := by simp
def BtTo (w : World) (e : Ending) (w' : World) : Prop := e = .returned (.bool true) ∧ Below w.heap.size w w'

set_option maxRecDepth 100000 in
set_option maxHeartbeats 4000000 in
theorem blockTurned_walk (v0 : Value) (n1 n2 : Int) (w : World) (h0 : RV Tryd.prog w 34 v0) (hn1 : (Lit.int .u16 n1).wf = true) (hn2 : (Lit.int .u32 n2).wf = true) (hq : Laid w) :
    Calls Tryd.prog 6 #[v0, .int .u16 n1, .int .u32 n2] w (BtTo w) := by
  obtain ⟨x0, a0, c0, rfl, hx0, hd0⟩ := blk_open h0
  obtain ⟨at0, rfl, hat⟩ := un16 hn1
  obtain ⟨pat, rfl, hpat⟩ := un32 hn2
  have hm := hd0.max'
  have hf := hd0.fit'
  obtain ⟨k, hk⟩ : ∃ k, min x0.data.length 104 = k := ⟨_, rfl⟩
  have hpm := pmin104 x0.data.length
  rw [hk] at hpm
  have HP := hid hpm
  have hk1 : k ≤ x0.data.length := by omega
  have hk2 : k ≤ 104 := by omega
  have hkc : (k : Int) ≤ (c0 : Int) := by omega
  obtain ⟨x, hx⟩ : ∃ x, cutX x0 k = x := ⟨_, rfl⟩
  have hxd : x.data = x0.data.take k := by rw [← hx]; rfl
  have HT := hid (show x.data.length = k from by rw [hxd, List.length_take]; omega)
  have T0 := hid (show BS w a0 c0 x.data from by rw [hxd]; exact hd0.take k)
  have XO := hid (show x.Ok from by rw [← hx]; exact ⟨hx0.kind, hx0.epoch, hx0.a, hx0.b⟩)
  have ek : x0.kind = x.kind := by rw [← hx]; rfl
  have ee : x0.epoch = x.epoch := by rw [← hx]; rfl
  have ea : x0.a = x.a := by rw [← hx]; rfl
  have eb : x0.b = x.b := by rw [← hx]; rfl
  obtain ⟨n0, hn0⟩ : ∃ n0, x0.data.length = n0 := ⟨_, rfl⟩
  unfold blkV
  rw [ek, ee, ea, eb, hn0]
  rw [hn0] at HP hm hf
  have HK2 := hid hk2
  have HQ := hid hq
  have hkb : (k : Int) ≤ 104 := by omega
  have kx := XO.out.kind
  have hkx : (x.kind : Int) ≤ 255 := by omega
  have hat' : (at0 : Int) ≤ 65535 := by omega
  have hpat' : (pat : Int) ≤ 4294967295 := by omega
  have HA := hid hat
  have HPA := hid hpat
  have B0 := hid (below_alloc w (.cells #[.int .u8 (x.kind : Int), .int .u32 (x.epoch : Int), .int .u32 (x.a : Int), .int .u32 (x.b : Int), .slice a0 n0 c0] 34))
  have K0 := hid (blk_alloc w [.int .u8 (x.kind : Int), .int .u32 (x.epoch : Int), .int .u32 (x.a : Int), .int .u32 (x.b : Int), .slice a0 n0 c0] 34)
  clear hk hpm hq hx hxd ek ee ea eb hn0 h0 hn1 hn2 hd0 hx0 kx hk1 hk2 hat hpat
  go_enter Tryd.func6, Tryd.ntmps6
  go_wp2_with fail
  refine (bawake_calls _ (HQ.out.below B0.out HQ.out.1)).mono ?_
  rintro e w1 ⟨rfl, hb1⟩
  have K1 := hid (K0.out.below hb1)
  have B1 := hid (B0.out.trans (hb1.mono B0.out.size))
  clear hb1 K0 B0
  obtain ⟨z, hz⟩ : ∃ z, w.heap.size = z := ⟨_, rfl⟩
  rw [hz] at K1 ⊢
  have Hz := hid hz
  clear hz
  have m0 := HP.out
  have d4 := K1.out.get 4 rfl
  have f4 := K1.out.free 4
  go_upto_region 4 with fail
  clear m0 d4 f4
  have K2 := hid (K1.out.set 4 (.slice a0 k c0))
  simp only [List.set_cons_succ, List.set_cons_zero] at K2
  have B2 := hid (B1.out.trans ((chg_setCell w1 z 4 (.slice a0 k c0)).below B1.out.size (by simp; exact Nat.le_of_eq Hz.out)))
  generalize (w1.setCell ⟨z, 4, none⟩ (.slice a0 k c0)) = w2 at K2 B2 ⊢
  clear K1 B1
  have d0 := K2.out.get 0 rfl
  by_cases hk0 : x.kind = 0
  · have e0 : ((x.kind : Int) == 0) = true := by simp; omega
    clear hk0
    go_wp2_with fail
    go_ret
    exact ⟨rfl, B2.out⟩
  have e0 : ((x.kind : Int) == 0) = false := by simp; omega
  have PR := hid (put_read (x := x) hk0 (by rw [HT.out]; exact HK2.out))
  clear hk0
  go_upto_region 6 with fail
  go_wp2_with fail
  refine (sa_new _ 1 (by decide)).mono ?_
  rintro e w3 ⟨g, rfl, h3⟩
  have S3 := hid h3
  have K3 := hid (K2.out.below h3.2)
  have L2 := hid (HQ.out.below B2.out HQ.out.1)
  clear h3 d0
  have hP := sa_bput w2 w3 g (newL 1) 0 a0 k c0 x S3.out (by omega) XO.out ((T0.out.below B2.out).below S3.out.2) HT.out (S3.out.laid L2.out) (new_small 1).1 (new_small 1).2
  rw [PR.out.1] at hP
  have HPP := hid hP
  clear hP
  go_upto_if 35 with (first | (refine wpList_load_blk (o := ⟨some 33, _, _, _, _, _⟩) 34 (.tmp 3) rfl rfl z [.int .u8 (x.kind : Int), .int .u32 (x.epoch : Int), .int .u32 (x.a : Int), .int .u32 (x.b : Int), .slice a0 k c0] 34 rfl K3.out ⟨_, Tryd.underlying34, rfl⟩ size_rblk ?_) | (go_at_call 21; refine HPP.out.mono ?_; rintro e w4 ⟨rfl, h4⟩; have S4 := hid h4; clear h4))
  clear HPP
  have hR := sa_read w2 w4 g _ 0 S4.out (by omega)
  rw [PR.out.2.1] at hR
  have HR := hid hR
  clear hR
  go_upto_region 10 with (go_at_call 20; refine HR.out.mono ?_; rintro e w5 ⟨v5, rfl, ho5, hb5, hS5⟩; dsimp only at ho5; dsimp only; have O5 := hid ho5; have S5 := hid hS5; have B5 := hid hb5; clear ho5 hb5 hS5)
  have LE := hid (encB_length (x := x) (by rw [HT.out]; have := HK2.out; omega))
  have SP := hid PR.out.2.2
  have AT := hid (show at0 % 1024 < 1024 from Nat.mod_lt _ (by omega))
  obtain ⟨b, c9, e9, hbs, hbb, hbl, hc9⟩ := ob_128 O5.out LE.out
  subst e9
  have HBB := hid (show w4.heap.size ≤ b from hbb)
  have B45 := hid B5.out
  clear hbs hbb hbl hc9
  obtain ⟨l, hl⟩ : ∃ l, encB x = l := ⟨_, rfl⟩
  have HLl := hid hl
  rw [hl] at O5 LE
  have X0 := hid (show BtRel (at0 % 1024) (pat ||| 1) l w4.heap.size (.slice (some ⟨b, 0, none⟩) 128 c9) w4 (.int .i64 0) w5 from ⟨0, by omega, rfl, O5.out, B5.out⟩)
  have OR := hid (u32_or_nat pat 1 HPA.out (by omega))
  clear hl
  go_wp2_with fail
  go_loopw [41] (fun iv wr => BtRel (at0 % 1024) (pat ||| 1) l w4.heap.size (.slice (some ⟨b, 0, none⟩) 128 c9) w4 iv wr) (fun iv _ => 32 - (intOf iv).toNat)
  case atStart => exact X0.out
  case round =>
    clear X0
    obtain ⟨j, hj, rfl, hown, hb⟩ := hrel
    by_cases hlt : j < 32
    · have hlt' : (j : Int) < 32 := by omega
      have hand : (bits .and .u32 (bits .or .u32 (pat : Int) 1 / 2 ^ j) 1 == 1) = (pat ||| 1).testBit j := by
        have h1 := OR.out
        rw [show ((1 : Nat) : Int) = 1 from rfl] at h1
        rw [h1, show (((pat ||| 1 : Nat) : Int)) / 2 ^ j = (((pat ||| 1) / 2 ^ j : Nat) : Int) from by rw [Int.natCast_ediv, Int.natCast_pow]; rfl]
        have h2 := u32_and_nat ((pat ||| 1) / 2 ^ j) 1 (Nat.lt_of_le_of_lt (Nat.div_le_self _ _) (Nat.or_lt_two_pow (n := 32) HPA.out (by omega))) (by omega)
        rw [show ((1 : Nat) : Int) = 1 from rfl] at h2
        rw [h2, Nat.and_one_is_mod, Nat.testBit_eq_decide_div_mod_eq, Bool.eq_iff_iff, beq_iff_eq, decide_eq_true_iff]
        omega
      have hTl := turnN_length (at0 % 1024) (pat ||| 1) j l
      have step0 : ¬ ((pat ||| 1).testBit j = true ∧ at0 % 1024 + j < 1024) → turnN (at0 % 1024) (pat ||| 1) (j + 1) l = turnN (at0 % 1024) (pat ||| 1) j l := by
        intro hno
        simp only [turnN]
        rw [if_neg]
        rw [LE.out]
        simpa using hno
      have Hs0 := hid step0
      have Hb := hid hb
      have Hown := hid hown
      have HTl := hid hTl
      have ATo := AT.out
      have hatm : (at0 : Int) % 1024 + (j : Int) = ((at0 % 1024 + j : Nat) : Int) := by omega
      have HATM := hid hatm
      clear step0 hb hown hTl hatm
      obtain ⟨tb, htb⟩ : ∃ tb, (pat ||| 1).testBit j = tb := ⟨_, rfl⟩
      rw [htb] at hand
      have HTB := hid htb
      clear htb
      cases tb
      · have Hs := hid (Hs0.out (fun h => by rw [HTB.out] at h; cases h.1))
        go_wp2_with fail
        have R : BtRel (at0 % 1024) (pat ||| 1) l w4.heap.size (.slice (some ⟨b, 0, none⟩) 128 c9) w4 (.int .i64 ((j : Int) + 1)) wr :=
          ⟨j + 1, by omega, by go_num, by rw [Hs.out]; exact Hown.out, Hb.out⟩
        refine ⟨?_, by simp [intOf]; omega⟩
        first | exact R | ((repeat apply Exists.intro); refine ⟨R, ?_⟩; and_intros <;> rfl)
      · by_cases hin : at0 % 1024 + j < 1024
        · have hin' : (at0 : Int) % 1024 + (j : Int) < 1024 := by omega
          have hown' : wr.ownsRow w4.heap.size 5 1 (.slice (some ⟨b, 0, none⟩) 128 c9) 128 ((turnN (at0 % 1024) (pat ||| 1) j l).map u8v) := by
            have := Hown.out; unfold OB at this; rwa [HTl.out, LE.out] at this
          have hst : turnN (at0 % 1024) (pat ||| 1) (j + 1) l = turnAt (turnN (at0 % 1024) (pat ||| 1) j l) (at0 % 1024 + j) := by
            simp only [turnN]
            rw [if_pos]
            rw [HTB.out, LE.out, decide_eq_true hin, Bool.and_self]
          obtain ⟨q, hqq⟩ : ∃ q, at0 % 1024 + j = q := ⟨_, rfl⟩
          rw [hqq] at hst hin HATM
          have hq128 : q / 8 < 128 := by omega
          obtain ⟨hc1, hf1⟩ := row_at hown' (q / 8) (by omega) (map_u8_get (by rw [HTl.out, LE.out]; omega))
          have Hs := hid (row_store hown' (q / 8) (u8v ((turnN (at0 % 1024) (pat ||| 1) j l).getD (q / 8) 0 ^^^ (1 <<< (UInt8.ofNat (q % 8))))))
          rw [map_u8_set, show (turnN (at0 % 1024) (pat ||| 1) j l).set (q / 8) ((turnN (at0 % 1024) (pat ||| 1) j l).getD (q / 8) 0 ^^^ (1 <<< (UInt8.ofNat (q % 8)))) = turnN (at0 % 1024) (pat ||| 1) (j + 1) l from hst.symm] at Hs
          have hxor := xor_shift ((turnN (at0 % 1024) (pat ||| 1) j l).getD (q / 8) 0) (q % 8) (by omega)
          generalize (turnN (at0 % 1024) (pat ||| 1) j l).getD (q / 8) 0 = c at hc1 Hs hxor
          unfold u8v at hc1 Hs
          have hcb : ((c.toNat : Nat) : Int) ≤ 255 := by have := c.toNat_lt; omega
          have hq8 : (q : Int) / 8 < 128 := by omega
          have Hxor := hid hxor
          have HATq := HATM.out
          have hqb : (q : Int) < 1024 := by omega
          clear hst hown' hxor hin hqq hin'
          go_upto_region 15 with fail
          go_region
          go_wp2_with fail
          have R : BtRel (at0 % 1024) (pat ||| 1) l w4.heap.size (.slice (some ⟨b, 0, none⟩) 128 c9) w4 (.int .i64 ((j : Int) + 1)) (wr.setCell ⟨b, q / 8, none⟩ (.int .u8 (bits .xor .u8 (c.toNat : Int) (2 ^ (q % 8) % 256)))).drew := by
            refine ⟨j + 1, by omega, by go_num, OB.below ?_ (below_drew _), Below.drew ?_⟩
            · rw [Hxor.out]
              have := Hs.out.1
              unfold OB
              rw [turnN_length, LE.out]
              exact this
            · rw [Hxor.out]
              exact Hb.out.trans Hs.out.2
          refine ⟨?_, by simp [intOf]; omega⟩
          first | exact R | ((repeat apply Exists.intro); refine ⟨R, ?_⟩; and_intros <;> rfl)
        · have hin' : ¬ ((at0 : Int) % 1024 + (j : Int) < 1024) := by omega
          have Hs := hid (Hs0.out (fun h => hin h.2))
          clear hin
          go_wp2_with fail
          have R : BtRel (at0 % 1024) (pat ||| 1) l w4.heap.size (.slice (some ⟨b, 0, none⟩) 128 c9) w4 (.int .i64 ((j : Int) + 1)) wr :=
            ⟨j + 1, by omega, by go_num, by rw [Hs.out]; exact Hown.out, Hb.out⟩
          refine ⟨?_, by simp [intOf]; omega⟩
          first | exact R | ((repeat apply Exists.intro); refine ⟨R, ?_⟩; and_intros <;> rfl)
    · obtain rfl : j = 32 := by omega
      have hlt' : ¬ ((32 : Int) < 32) := by omega
      obtain ⟨q, hqq⟩ : ∃ q, turnN (at0 % 1024) (pat ||| 1) 32 l = q := ⟨_, rfl⟩
      have HQl := hid (show q.length = 128 from by rw [← hqq, turnN_length]; exact LE.out)
      have hbad : (readB q).2 ≠ 0 := by
        rw [← hqq, ← HLl.out]
        exact readB_turned x (by rw [HT.out]; exact HK2.out) (at0 % 1024) (pat ||| 1) AT.out (or_one pat)
      rw [hqq] at hown
      have OQ := hid hown
      have Bq := hid hb
      have SQ := hid (S4.out.below hb)
      have hW := sa_write w2 wr g _ 0 (some ⟨b, 0, none⟩) c9 q SQ.out (by omega) OQ.out.bsN (by have := SP.out.1; omega) (by have := SP.out.2.1; omega) (S4.out.off_new hb (by rintro y ⟨⟩; exact HBB.out))
      rw [HQl.out] at hW
      have HW := hid hW
      obtain ⟨Y, hY⟩ : ∃ Y, readB q = Y := ⟨_, rfl⟩
      have HG := hid (show getB (writeL (putB (newL 1) 0 x).1 0 q).1 0 = Y from (write_get SP.out.2.2.1 SP.out.2.2.2.1 SP.out.2.2.2.2 HQl.out).trans hY)
      rw [hY] at hbad
      obtain ⟨y, ev⟩ := Y
      dsimp only at hbad
      have hev : ((ev : Int) != 0) = true := by simp; exact hbad
      clear hown hb hqq hW hY hbad hat' hpat' hj hlt
      go_wp2_with (first | (go_at_call 11; refine HW.out.mono ?_; rintro e w6 ⟨rfl, h6⟩; have S6 := hid h6; clear h6) | (go_at_call 12; refine (sa_bget w2 w6 g _ 0 S6.out (by omega) (S6.out.laid L2.out)).mono ?_; rw [HG.out]; rintro e w7 ⟨a7, n7, c7, rfl, hn7, hO7, hb7⟩; dsimp only; have B7 := hid (S6.out.2.trans (hb7.mono S6.out.2.size)); clear hn7 hO7 hb7) | (refine wpListQ_alloc (o := ⟨some 13, _, _, _, _, _⟩) 31 rfl rfl zblk 5 info_blk ?_) | (refine wpListQ_store_new (o := ⟨none, _, 0, _, _, _⟩) rfl 31 (.tmp 13) (.tmp 76) rfl zblk #[.int .u8 (y.kind : Int), .int .u32 (y.epoch : Int), .int .u32 (y.a : Int), .int .u32 (y.b : Int), .slice a7 n7 c7] rfl rfl size_blk rfl (all_oneCell_toArray (by intro u hu; simp only [List.mem_cons, List.not_mem_nil, or_false] at hu; rcases hu with rfl | rfl | rfl | rfl | rfl <;> rfl)) ?_))
      go_ret
      exact ⟨rfl, B2.out.trans ((B7.out.trans ((below_alloc w7 _).mono B7.out.size)).mono B2.out.size)⟩
end Go.Proofs.YtkaidbfpgdfpfaaDoor
