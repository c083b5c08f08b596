/- BlockRoots: a root changes whole. -/
import Derived.Test.YtkaidbfpgdfpfaaDoorBlkN
import Derived.Test.YtkaidbfpgdfpfaaDoorBlockReads
import Derived.Deep.CutBlock
import Derived.Deep.DeepMust
import Derived.RegionTactic
import Derived.BigRegion
import Derived.Deep.CutRange
namespace Go.Proofs.YtkaidbfpgdfpfaaDoor
open Go.RowKit Go.Quad _root_.Quad _root_.Quad.Slab

def BrRel (w w1 : World) (g z n : Nat) (iv : Value) (wr : World) : Prop :=
  ∃ (k : Nat) (s : Sl) (r : RootD), iv = .int .i64 (k : Int) ∧ k ≤ n ∧ k ≤ 20 ∧ SX w1 g s [z] wr ∧ Blk wr z (rootV r) 67 ∧ (s.steps ≤ 2 * k ∧ s.way.length = 0) ∧ Below w.heap.size w wr ∧ ((k = 0 ∧ s = newL 2 ∧ r = rootZ) ∨ (1 ≤ k ∧ Rt s k r))
def BrTo (w : World) (e : Ending) (w' : World) : Prop := e = .returned (.bool true) ∧ Below w.heap.size w w'
def nextR (r : RootD) (k : Nat) : RootD := ⟨k + 1, r.epoch, r.gen, r.area % 2⟩
theorem nextR_ok {r : RootD} {k : Nat} (h : r.Ok) (hk : k < 20) : (nextR r k).Ok := ⟨by show k + 1 < 4294967296; omega, h.epoch, h.gen, by show r.area % 2 < 256; omega⟩
theorem afterR_steps (s : Sl) (r : RootD) : (afterR s r).steps = s.steps + 2 := rfl
theorem afterR_way (s : Sl) (r : RootD) : (afterR s r).way.length = 0 := rfl

set_option maxRecDepth 100000 in
set_option maxHeartbeats 20000000 in
theorem blockRoots_walk (v0 : Value) (n1 : Int) (a2 : Option Addr) (c2 : Nat) (l2 : List UInt8) (n3 : Int) (w : World) (h0 : RV Tryd.prog w 81 v0) (hn1 : (Lit.int .u8 n1).wf = true) (h2 : BS w a2 c2 l2) (hn3 : (Lit.int .i64 n3).wf = true) (hq : Laid w) :
    Calls Tryd.prog 8 #[v0, .int .u8 n1, .slice a2 l2.length c2, .int .i64 n3] w (BrTo w) := by
  obtain ⟨a0, c0, l0, rfl, hok0, hcs0, hlc0⟩ := roots_open h0
  obtain ⟨at0, rfl, hat⟩ := un8 hn1
  have hnb := bounds_i64 hn3
  have m0 : l0.length ≤ 9223372036854775807 := by have := hcs0.max; unfold maxLen at this; omega
  have Hok := hid hok0
  have Hcs := hid hcs0
  have F2 := hid h2
  have HQ := hid hq
  have hat' : (at0 : Int) ≤ 255 := by omega
  have HA := hid hat
  clear h0 hn1 hn3 hok0 hcs0 h2 hq hlc0 hat
  go_enter Tryd.func8, Tryd.ntmps8
  go_wp2_with fail
  refine (bawake_calls w HQ.out).mono ?_
  rintro e w1 ⟨rfl, hb1⟩
  have B1 := hid hb1
  clear hb1
  go_wp2_with fail
  refine (sa_new w1 2 (by decide)).mono ?_
  rintro e w2 ⟨g, rfl, h2⟩
  have S2 := hid h2
  have L1 := hid (HQ.out.below B1.out HQ.out.1)
  clear h2
  have X3 := hid ((SX.of S2.out).new (.cells #[.int .u32 0, .int .u32 0, .int .u32 0, .int .u8 0] 67))
  have K3 := hid (blk_alloc w2 [.int .u32 0, .int .u32 0, .int .u32 0, .int .u8 0] 67)
  obtain ⟨z, hz⟩ : ∃ z, w2.heap.size = z := ⟨_, rfl⟩
  rw [hz] at X3 K3
  have Hz := hid hz
  clear hz
  go_upto_region 5 with fail
  rw [Hz.out]
  generalize (w2.alloc (.cells #[.int .u32 0, .int .u32 0, .int .u32 0, .int .u8 0] 67)) = w3 at X3 K3 ⊢
  clear S2 Hz
  have R0 := hid (show BrRel w w1 g z l0.length (.int .i64 0) w3 from ⟨0, newL 2, rootZ, rfl, Nat.zero_le _, by omega, X3.out, K3.out, ⟨Nat.zero_le _, rfl⟩, B1.out.trans (X3.out.2.mono B1.out.size), .inl ⟨rfl, rfl, rfl⟩⟩)
  go_wp2_with fail
  go_loopw [32] (fun iv wr => BrRel w w1 g z l0.length iv wr) (fun iv _ => l0.length - (intOf iv).toNat)
  case atStart => exact R0.out
  case round =>
    clear R0 X3 K3
    obtain ⟨k, s, r0, rfl, hk, hk20, hX, hZ, hst, hB, hcase⟩ := hrel
    have SXs := hid hX
    have ZB := hid hZ
    have ST := hid hst
    have BW := hid hB
    have CS := hid hcase
    clear hX hZ hst hB hcase
    by_cases hkl : k < l0.length
    · have hkl' : (k : Int) < (l0.length : Int) := by omega
      have Ho := hid (Hok.out _ (List.getElem_mem hkl))
      obtain ⟨bo, off, rfl, hc⟩ := cs_row rootV_length Hcs.out hkl (by decide)
      have d0 := cell_later BW.out (hc 0 _ rfl)
      have d1 := cell_later BW.out (hc 1 _ rfl)
      have d2 := cell_later BW.out (hc 2 _ rfl)
      have d3 := cell_later BW.out (hc 3 _ rfl)
      clear hc
      generalize l0[k] = r1 at Ho d0 d1 d2 d3
      rw [Nat.add_zero] at d0
      obtain ⟨t1, e1, g1, ar1⟩ := r1
      dsimp only at d0 d1 d2 d3
      have hr3 : (ar1 : Int) ≤ 255 := by have := Ho.out.area; dsimp only at this; omega
      have KQ := hid (blk_alloc wr [.int .u32 (t1 : Int), .int .u32 (e1 : Int), .int .u32 (g1 : Int), .int .u8 (ar1 : Int)] 61)
      have XQ := hid (SXs.out.new (.cells #[.int .u32 (t1 : Int), .int .u32 (e1 : Int), .int .u32 (g1 : Int), .int .u8 (ar1 : Int)] 61))
      have ZQ := hid (ZB.out.below (below_alloc wr (.cells #[.int .u32 (t1 : Int), .int .u32 (e1 : Int), .int .u32 (g1 : Int), .int .u8 (ar1 : Int)] 61)))
      have BQ := hid (BW.out.trans ((below_alloc wr (.cells #[.int .u32 (t1 : Int), .int .u32 (e1 : Int), .int .u32 (g1 : Int), .int .u8 (ar1 : Int)] 61)).mono BW.out.size))
      by_cases h20 : k < 20
      · have h20' : ¬ ((20 : Int) ≤ (k : Int)) := by omega
        go_upto_region 9 with fail
        obtain ⟨q, hq⟩ : ∃ q, wr.heap.size = q := ⟨_, rfl⟩
        have hzq := hid (show z ≠ q from by obtain ⟨⟨_, _, _, h3⟩, _⟩ := SXs.out; have := (h3 z (by simp)).1.2; omega)
        rw [hq] at KQ XQ ⊢
        clear hq d0 d1 d2 d3 ZB SXs BW
        generalize (wr.alloc (.cells #[.int .u32 (t1 : Int), .int .u32 (e1 : Int), .int .u32 (g1 : Int), .int .u8 (ar1 : Int)] 61)) = wq at KQ XQ ZQ BQ ⊢
        have m0 := KQ.out.get 0 rfl
        have m3 := KQ.out.get 3 rfl
        have f3 := KQ.out.free 3
        have f0 := KQ.out.free 0
        go_upto_region 10 with fail
        clear m0 m3 f3 f0
        obtain ⟨r, hr⟩ : ∃ r, nextR ⟨t1, e1, g1, ar1⟩ k = r := ⟨_, rfl⟩
        have RO := hid (show r.Ok from by rw [← hr]; exact nextR_ok Ho.out h20)
        have RT := hid (show r.turn = k + 1 from by rw [← hr]; rfl)
        have RA := hid (show r.area ≤ 1 from by rw [← hr]; show ar1 % 2 ≤ 1; omega)
        have K4 := hid (show Blk ((wq.setCell ⟨q, 0, none⟩ (.int .u32 ((k : Int) + 1))).setCell ⟨q, 3, none⟩ (.int .u8 ((ar1 : Int) % 2))) q (rootV r) 61 from by
          have := ((KQ.out.set 0 (.int .u32 ((k : Int) + 1))).set 3 (.int .u8 ((ar1 : Int) % 2)))
          rw [← hr]
          exact this)
        have CQ := hid (show Chg [q] wq ((wq.setCell ⟨q, 0, none⟩ (.int .u32 ((k : Int) + 1))).setCell ⟨q, 3, none⟩ (.int .u8 ((ar1 : Int) % 2))) from (chg_setCell wq q 0 _).trans (chg_setCell _ q 3 _))
        have X4 := hid (XQ.out.chg CQ.out (by intro x hx; simp at hx; simp [hx]))
        have Z4 := hid (ZQ.out.keep CQ.out (by have := hzq.out; simp; exact this))
        have RV4 := hid (show rootV r = [.int .u32 (r.turn : Int), .int .u32 (r.epoch : Int), .int .u32 (r.gen : Int), .int .u8 (r.area : Int)] from rfl)
        clear hr hr3 XQ KQ ZQ CQ Ho
        generalize ((wq.setCell ⟨q, 0, none⟩ (.int .u32 ((k : Int) + 1))).setCell ⟨q, 3, none⟩ (.int .u8 ((ar1 : Int) % 2))) = w4 at X4 K4 Z4 ⊢
        have BW1 := hid B1.out
        have hz1 := hid (X4.out.2)
        have LQ := hid (X4.out.sa.laid L1.out)
        rcases CS.out with ⟨hk0, hs0, hr0⟩ | ⟨hk1, hrt⟩
        · as_aux_lemma =>
          clear CS
          have hke : ((k : Int) == 0) = true := by simp; exact hk0
          obtain rfl := hs0
          have hF := storeB_first (r := r) (by rw [RT.out, hk0]) RO.out RA.out
          have HRt := hid (show Rt (afterR (newL 2) r) (k + 1) r from by rw [hk0]; exact hF.2)
          have HF := hid hF.1
          clear hF hk0 hr0

          have hS := sx_store w1 w4 g (newL 2) [q, z] r X4.out RO.out (X4.out.sa.laid L1.out) (by decide) (by decide)
          rw [HF.out] at hS
          have HS := hid hS
          clear hS
          go_upto_if 52 with (first | (refine wpList_load_blk (o := ⟨some 50, _, _, _, _, _⟩) 61 (.tmp 13) rfl rfl q (rootV r) 61 rfl K4.out ⟨_, Tryd.underlying61, rfl⟩ size_rroot ?_) | (go_at_call 26; go_loud (refine HS.out.mono ?_; rintro e w5 ⟨rfl, h5, k5⟩; have X5 := hid h5; have Z5 := hid (Blk.x Z4.out k5 (by simp)); have K5 := hid (Blk.x K4.out k5 (by simp)); clear h5 k5)))
          clear HS

          go_wp2_with (first | (refine wpList_load_blk (o := ⟨some 53, _, _, _, _, _⟩) 61 (.tmp 13) rfl rfl q (rootV r) 61 rfl K5.out ⟨_, Tryd.underlying61, rfl⟩ size_rroot ?_) | (refine wpList_store_blk (o := ⟨none, _, 0, _, _, _⟩) 67 (.tmp 11) (.tmp 53) rfl rfl z (rootV r0) (rootV r) 67 rfl rfl Z5.out rfl size_root (by simp [rootV, Value.oneCell']) ?_; intro w6 hZ6 hC6; have Z6 := hid hZ6; have C6 := hid hC6; clear hZ6 hC6))
          have X6 := hid ((X5.out.chg C6.out (by intro x hx; simp at hx; simp [hx])).less (Y := [z]) (by simp))
          have R : BrRel w w1 g z l0.length (.int .i64 ((k : Int) + 1)) w6 :=
            ⟨k + 1, afterR (newL 2) r, r, by go_num, hkl, h20, X6.out, Z6.out, ⟨by rw [afterR_steps]; have := ST.out.1; omega, afterR_way _ r⟩, B1.out.trans (X6.out.2.mono B1.out.size), .inr ⟨by omega, HRt.out⟩⟩
          refine ⟨?_, by simp [intOf]; omega⟩
          first | exact R | ((repeat apply Exists.intro); refine ⟨R, ?_⟩; and_intros <;> rfl)
        · clear CS
          have hke : ((k : Int) == 0) = false := by simp; omega
          replace hrt := hid hrt
          by_cases hka : k = at0 % 20
          · as_aux_lemma =>
            have hke2 : ((k : Int) == (at0 : Int) % 20) = true := by simp; omega
            obtain ⟨m, hm, hm12⟩ : ∃ m : Nat, 1 + (at0 : Int) / 20 % 2 = (m : Int) ∧ (m = 1 ∨ m = 2) := ⟨1 + at0 / 20 % 2, by omega, by omega⟩
            have hA := sx_arm w1 w4 g s [q, z] (1 + (at0 : Int) / 20 % 2) X4.out (by omega)
            have hal : armL s (1 + (at0 : Int) / 20 % 2) = ({ s with armed := m }, 0) := by unfold armL; rw [if_neg (by omega), hm]; rfl
            rw [hal] at hA
            have HAR := hid hA
            obtain ⟨s', hs1, hs2, hs3, hs4⟩ := storeB_down hrt.out RT.out RA.out hm12
            obtain ⟨p, hp, hrd, hld⟩ := crash_root hrt.out hs2 hs3 l2 n3
            rw [show ((((k + 1) % 2 : Nat)) : Int) = ((k : Int) + 1) % 2 from by omega] at hrd
            have HS1 := hid hs1
            have HP := hid hp
            have HRD := hid hrd
            have HLD := hid hld
            have HZ0 := hid (rootEq_self r0)
            clear hka hm hm12 hA hal hs1 hs2 hs3 hs4 hp hrd hld
            go_upto_region 15 with fail
            go_upto_region 16 with (first | (go_at_call 35; go_loud (refine HAR.out.mono ?_; rintro e w4' ⟨rfl, h5, k5⟩; have X4' := hid h5; have Z4' := hid (Blk.x Z4.out k5 (by simp)); have K4' := hid (Blk.x K4.out k5 (by simp)); clear h5 k5)))
            clear HAR

            have hS := sx_store w1 w4' g { s with armed := m } [q, z] r X4'.out RO.out (X4'.out.sa.laid L1.out) (by have := ST.out.1; show s.steps + 1 < 1000000; omega) (by have := ST.out.2; show s.way.length < 1000000; omega)
            rw [HS1.out] at hS
            have HS := hid hS
            clear hS
            go_upto_if 70 with (first | (refine wpList_load_blk (o := ⟨some 67, _, _, _, _, _⟩) 61 (.tmp 13) rfl rfl q (rootV r) 61 rfl K4'.out ⟨_, Tryd.underlying61, rfl⟩ size_rroot ?_) | (go_at_call 26; go_loud (refine HS.out.mono ?_; rintro e w5 ⟨rfl, h5, k5⟩; have X5 := hid h5; have Z5 := hid (Blk.x Z4'.out k5 (by simp)); have K5 := hid (Blk.x K4'.out k5 (by simp)); clear h5 k5)))
            clear HS

            have hC := sx_crash w1 w5 g s' [q, z] a2 c2 l2 n3 X5.out (F2.out.below (B1.out.trans (X5.out.2.mono B1.out.size))) (SA.off_old F2.out B1.out.size) hnb
            have HC := hid hC
            clear hC
            go_upto_if 79 with (first | (go_at_call 33; go_loud (refine HC.out.mono ?_; rintro e w6 ⟨rfl, h6, k6⟩; have X6 := hid h6; have Z6 := hid (Blk.x Z5.out k6 (by simp)); clear h6 k6)))
            clear HC
            have hR := sa_read w1 w6 g _ (((k : Int) + 1) % 2) X6.out.sa (by omega)
            rw [HRD.out] at hR
            have HR := hid hR
            clear hR
            go_upto_region 21 with (first | (go_at_call 20; go_loud (refine HR.out.mono ?_; rintro e w7 ⟨v7, rfl, ho7, hb7, _⟩; dsimp only at ho7; dsimp only; have O7 := hid ho7; have B7 := hid hb7; clear ho7 hb7)))
            obtain ⟨b, c9, e9, hbs, hbb, hbl, hc9⟩ := ob_128 O7.out HP.out
            subst e9
            obtain ⟨Y, hY⟩ : ∃ Y, readB p = Y := ⟨_, rfl⟩
            have hRR := rread_calls w7 b c9 p hbs HP.out hc9
            rw [hY] at hRR
            have HLD' := HLD.out
            rw [hY] at HLD'
            replace HLD := hid HLD'
            obtain ⟨y, ey⟩ := Y
            have HRR := hid hRR
            have X7 := hid (X6.out.below B7.out)
            have Z7 := hid (Blk.below Z6.out B7.out)
            clear hbs hbb hbl hc9 hY hRR HLD' HR
            go_upto_region 22 with (first | (go_at_call 13; go_loud (refine HRR.out.mono ?_; rintro e w8 ⟨a8, n8, c8, rfl, hn8, hO8, hb8⟩; dsimp only at hn8 hO8; dsimp only; have N8 := hid hn8; have O8 := hid hO8; have B8 := hid hb8; clear hn8 hO8 hb8)) | (refine wpListQ_alloc (o := ⟨some 17, _, _, _, _, _⟩) 34 rfl rfl zblk 5 info_rblk ?_) | (refine wpListQ_store_new (o := ⟨none, _, 0, _, _, _⟩) rfl 34 (.tmp 17) (.tmp 91) rfl zblk #[.int .u8 (y.kind : Int), .int .u32 (y.epoch : Int), .int .u32 (y.a : Int), .int .u32 (y.b : Int), .slice a8 n8 c8] rfl rfl size_rblk rfl (all_oneCell_toArray (by intro u hu; simp only [List.mem_cons, List.not_mem_nil, or_false] at hu; rcases hu with rfl | rfl | rfl | rfl | rfl <;> rfl)) ?_))
            have b9 := below_alloc w8 (.cells #[.int .u8 (y.kind : Int), .int .u32 (y.epoch : Int), .int .u32 (y.a : Int), .int .u32 (y.b : Int), .slice a8 n8 c8] 34)
            have K9 := hid (blk_alloc w8 [.int .u8 (y.kind : Int), .int .u32 (y.epoch : Int), .int .u32 (y.a : Int), .int .u32 (y.b : Int), .slice a8 n8 c8] 34)
            have O9 := hid (O8.out.below b9)
            have X9 := hid ((X7.out.below B8.out).below b9)
            have Z9 := hid (Blk.below (Blk.below Z7.out B8.out) b9)
            generalize (w8.alloc (.cells #[.int .u8 (y.kind : Int), .int .u32 (y.epoch : Int), .int .u32 (y.a : Int), .int .u32 (y.b : Int), .slice a8 n8 c8] 34)) = w9 at K9 O9 X9 Z9 b9 ⊢
            obtain ⟨y1, hy1⟩ : ∃ y1, w8.heap.size = y1 := ⟨_, rfl⟩
            rw [hy1] at K9 ⊢
            clear b9 hy1 O7 B7 X7 Z7 O8 B8 HRR
            have HL := sa_load w1 w9 g _ X9.out.sa (X9.out.sa.laid L1.out)
            obtain ⟨⟨rx, ex⟩, hLY⟩ : ∃ Y, loadB (crashL s' l2 n3) = Y := ⟨_, rfl⟩
            rw [hLY] at HL
            have HLD' := HLD.out
            rw [hLY] at HLD'
            replace HLD := hid HLD'
            replace HL := hid HL
            clear hLY HLD'
            go_upto_region 23 with (first | (go_at_call 28; go_loud (refine HL.out.mono ?_; rintro e w10 ⟨rfl, hb10⟩; dsimp only; have B10 := hid hb10; clear hb10)))
            have K11 := hid (show Blk (w10.alloc (.cells #[.int .u32 (rx.turn : Int), .int .u32 (rx.epoch : Int), .int .u32 (rx.gen : Int), .int .u8 (rx.area : Int)] 67)) w10.heap.size (rootV rx) 67 from blk_alloc w10 (rootV rx) 67)
            have b11 := below_alloc w10 (.cells #[.int .u32 (rx.turn : Int), .int .u32 (rx.epoch : Int), .int .u32 (rx.gen : Int), .int .u8 (rx.area : Int)] 67)
            have O11 := hid ((O9.out.below B10.out).below b11)
            have X11 := hid ((X9.out.below B10.out).below b11)
            have Z11 := hid (Blk.below (Blk.below Z9.out B10.out) b11)
            have K9' := hid (Blk.below (Blk.below K9.out B10.out) b11)
            generalize (w10.alloc (.cells #[.int .u32 (rx.turn : Int), .int .u32 (rx.epoch : Int), .int .u32 (rx.gen : Int), .int .u8 (rx.area : Int)] 67)) = w11 at K11 O11 X11 Z11 K9' b11 ⊢
            obtain ⟨y2, hy2⟩ : ∃ y2, w10.heap.size = y2 := ⟨_, rfl⟩
            rw [hy2] at K11 ⊢
            clear b11 hy2 O9 X9 Z9 K9 B10 HL

            have L8 := N8.out
            rcases Nat.eq_zero_or_pos ey with hey | hey
            · have e1 : ((ey : Int) == 0) = true := by simp; exact hey
              by_cases h1 : n8 = 1
              · have e2 : ((n8 : Int) == 1) = true := by simp; omega
                obtain ⟨y1k, y1e, y1a, y1b, y1d⟩ := y
                dsimp only at L8 K9' O11 HLD
                obtain ⟨dv, rfl⟩ : ∃ dv, y1d = [dv] := by match y1d, (show y1d.length = 1 by rw [L8]; exact h1) with | [dv], _ => exact ⟨dv, rfl⟩
                obtain rfl := h1
                have OA := O11.out.bsN
                obtain ⟨ab, ao, rfl, hac⟩ := CS.at OA (by simp)
                have d0 := hac 0 _ (List.getElem?_eq_getElem (by simp))
                rw [Nat.add_zero] at d0
                simp only [List.map_cons, List.map_nil, List.getElem_cons_zero, u8v] at d0
                have hdv : (dv.toNat : Int) ≤ 255 := by have := dv.toNat_lt; omega
                have c1 := K9'.out.get 1 rfl
                have c2' := K9'.out.get 2 rfl
                have c3 := K9'.out.get 3 rfl
                have c4 := K9'.out.get 4 rfl
                have x0 := K11.out.get 0 rfl
                have x1 := K11.out.get 1 rfl
                have x2 := K11.out.get 2 rfl
                have x3 := K11.out.get 3 rfl
                clear OA hac
                rcases HLD.out with hl | ⟨_, _, hl⟩
                · obtain ⟨hx1, hx2⟩ : rx = r0 ∧ ex = 0 := by simpa using hl
                  subst hx1 hx2
                  clear HLD hl
                  by_cases q1 : (rx.turn : Int) = (y1a : Int)
                  case neg =>
                    as_aux_lemma =>
                    go_region
                    clear c1 c2' c3 c4 x0 x1 x2 x3 d0
                    have K12 := hid (Blk.below K11.out (below_drew w11))
                    have Z12 := hid (Blk.below Z11.out (below_drew w11))
                    have X12 := hid (X11.out.below (below_drew w11))
                    generalize w11.drew = w12 at K12 Z12 X12 ⊢
                    clear K11 Z11 X11 O11 K9'
                    go_wp2_with (first | (refine wpList_load_blk (o := ⟨some 124, _, _, _, _, _⟩) 67 (.tmp 19) rfl rfl y2 (rootV rx) 67 rfl K12.out ⟨_, Tryd.underlying67, rfl⟩ size_root ?_) | (refine wpList_load_blk (o := ⟨some 125, _, _, _, _, _⟩) 67 (.tmp 11) rfl rfl z (rootV rx) 67 rfl Z12.out ⟨_, Tryd.underlying67, rfl⟩ size_root ?_) | (refine wpList_eqlB (o := ⟨some 126, _, _, _, _, _⟩) 67 67 (.tmp 124) (.tmp 125) rfl rfl (.agg (rootV rx).toArray) (.agg (rootV rx).toArray) rfl rfl true (eqg_root rx rx _ _ _) ((eq_root rx rx _).trans (by rw [rootEq_self])) ?_))

                    go_ret
                    exact ⟨rfl, B1.out.trans (X12.out.2.mono B1.out.size)⟩
                  case pos =>
                  by_cases q2 : (rx.epoch : Int) = (y1e : Int)
                  case neg =>
                    as_aux_lemma =>
                    go_region
                    clear c1 c2' c3 c4 x0 x1 x2 x3 d0
                    have K12 := hid (Blk.below K11.out (below_drew w11))
                    have Z12 := hid (Blk.below Z11.out (below_drew w11))
                    have X12 := hid (X11.out.below (below_drew w11))
                    generalize w11.drew = w12 at K12 Z12 X12 ⊢
                    clear K11 Z11 X11 O11 K9'
                    go_wp2_with (first | (refine wpList_load_blk (o := ⟨some 124, _, _, _, _, _⟩) 67 (.tmp 19) rfl rfl y2 (rootV rx) 67 rfl K12.out ⟨_, Tryd.underlying67, rfl⟩ size_root ?_) | (refine wpList_load_blk (o := ⟨some 125, _, _, _, _, _⟩) 67 (.tmp 11) rfl rfl z (rootV rx) 67 rfl Z12.out ⟨_, Tryd.underlying67, rfl⟩ size_root ?_) | (refine wpList_eqlB (o := ⟨some 126, _, _, _, _, _⟩) 67 67 (.tmp 124) (.tmp 125) rfl rfl (.agg (rootV rx).toArray) (.agg (rootV rx).toArray) rfl rfl true (eqg_root rx rx _ _ _) ((eq_root rx rx _).trans (by rw [rootEq_self])) ?_))

                    go_ret
                    exact ⟨rfl, B1.out.trans (X12.out.2.mono B1.out.size)⟩
                  case pos =>
                  by_cases q3 : (rx.gen : Int) = (y1b : Int)
                  case neg =>
                    as_aux_lemma =>
                    go_region
                    clear c1 c2' c3 c4 x0 x1 x2 x3 d0
                    have K12 := hid (Blk.below K11.out (below_drew w11))
                    have Z12 := hid (Blk.below Z11.out (below_drew w11))
                    have X12 := hid (X11.out.below (below_drew w11))
                    generalize w11.drew = w12 at K12 Z12 X12 ⊢
                    clear K11 Z11 X11 O11 K9'
                    go_wp2_with (first | (refine wpList_load_blk (o := ⟨some 124, _, _, _, _, _⟩) 67 (.tmp 19) rfl rfl y2 (rootV rx) 67 rfl K12.out ⟨_, Tryd.underlying67, rfl⟩ size_root ?_) | (refine wpList_load_blk (o := ⟨some 125, _, _, _, _, _⟩) 67 (.tmp 11) rfl rfl z (rootV rx) 67 rfl Z12.out ⟨_, Tryd.underlying67, rfl⟩ size_root ?_) | (refine wpList_eqlB (o := ⟨some 126, _, _, _, _, _⟩) 67 67 (.tmp 124) (.tmp 125) rfl rfl (.agg (rootV rx).toArray) (.agg (rootV rx).toArray) rfl rfl true (eqg_root rx rx _ _ _) ((eq_root rx rx _).trans (by rw [rootEq_self])) ?_))

                    go_ret
                    exact ⟨rfl, B1.out.trans (X12.out.2.mono B1.out.size)⟩
                  case pos =>
                  by_cases q4 : (rx.area : Int) = (dv.toNat : Int)
                  case neg =>
                    as_aux_lemma =>
                    go_region
                    clear c1 c2' c3 c4 x0 x1 x2 x3 d0
                    have K12 := hid (Blk.below K11.out (below_drew w11))
                    have Z12 := hid (Blk.below Z11.out (below_drew w11))
                    have X12 := hid (X11.out.below (below_drew w11))
                    generalize w11.drew = w12 at K12 Z12 X12 ⊢
                    clear K11 Z11 X11 O11 K9'
                    go_wp2_with (first | (refine wpList_load_blk (o := ⟨some 124, _, _, _, _, _⟩) 67 (.tmp 19) rfl rfl y2 (rootV rx) 67 rfl K12.out ⟨_, Tryd.underlying67, rfl⟩ size_root ?_) | (refine wpList_load_blk (o := ⟨some 125, _, _, _, _, _⟩) 67 (.tmp 11) rfl rfl z (rootV rx) 67 rfl Z12.out ⟨_, Tryd.underlying67, rfl⟩ size_root ?_) | (refine wpList_eqlB (o := ⟨some 126, _, _, _, _, _⟩) 67 67 (.tmp 124) (.tmp 125) rfl rfl (.agg (rootV rx).toArray) (.agg (rootV rx).toArray) rfl rfl true (eqg_root rx rx _ _ _) ((eq_root rx rx _).trans (by rw [rootEq_self])) ?_))

                    go_ret
                    exact ⟨rfl, B1.out.trans (X12.out.2.mono B1.out.size)⟩
                  case pos =>
                    as_aux_lemma =>
                    go_region
                    clear c1 c2' c3 c4 x0 x1 x2 x3 d0
                    have K12 := hid (Blk.below K11.out (below_drew w11))
                    have Z12 := hid (Blk.below Z11.out (below_drew w11))
                    have X12 := hid (X11.out.below (below_drew w11))
                    generalize w11.drew = w12 at K12 Z12 X12 ⊢
                    clear K11 Z11 X11 O11 K9'
                    go_wp2_with (first | (refine wpList_load_blk (o := ⟨some 124, _, _, _, _, _⟩) 67 (.tmp 19) rfl rfl y2 (rootV rx) 67 rfl K12.out ⟨_, Tryd.underlying67, rfl⟩ size_root ?_) | (refine wpList_load_blk (o := ⟨some 125, _, _, _, _, _⟩) 67 (.tmp 11) rfl rfl z (rootV rx) 67 rfl Z12.out ⟨_, Tryd.underlying67, rfl⟩ size_root ?_) | (refine wpList_eqlB (o := ⟨some 126, _, _, _, _, _⟩) 67 67 (.tmp 124) (.tmp 125) rfl rfl (.agg (rootV rx).toArray) (.agg (rootV rx).toArray) rfl rfl true (eqg_root rx rx _ _ _) ((eq_root rx rx _).trans (by rw [rootEq_self])) ?_))

                    go_ret
                    exact ⟨rfl, B1.out.trans (X12.out.2.mono B1.out.size)⟩
                · obtain ⟨hx1, hx2⟩ : rx = ⟨y1a, y1e, y1b, dv.toNat⟩ ∧ ex = 0 := by simpa [rootOf] using hl
                  subst hx1 hx2
                  clear HLD hl
                  as_aux_lemma =>
                  go_region
                  clear c1 c2' c3 c4 x0 x1 x2 x3 d0
                  obtain ⟨tb, htb⟩ : ∃ tb, rootEq ⟨y1a, y1e, y1b, dv.toNat⟩ r0 = tb := ⟨_, rfl⟩
                  have HTB := hid htb
                  clear htb
                  cases tb
                  · have K12 := hid (Blk.below K11.out (below_drew w11))
                    have Z12 := hid (Blk.below Z11.out (below_drew w11))
                    have X12 := hid (X11.out.below (below_drew w11))
                    generalize w11.drew = w12 at K12 Z12 X12 ⊢
                    clear K11 Z11 X11 O11 K9'
                    go_wp2_with (first | (refine wpList_load_blk (o := ⟨some 124, _, _, _, _, _⟩) 67 (.tmp 19) rfl rfl y2 (rootV ⟨y1a, y1e, y1b, dv.toNat⟩) 67 rfl K12.out ⟨_, Tryd.underlying67, rfl⟩ size_root ?_) | (refine wpList_load_blk (o := ⟨some 125, _, _, _, _, _⟩) 67 (.tmp 11) rfl rfl z (rootV r0) 67 rfl Z12.out ⟨_, Tryd.underlying67, rfl⟩ size_root ?_) | (refine wpList_eqlB (o := ⟨some 126, _, _, _, _, _⟩) 67 67 (.tmp 124) (.tmp 125) rfl rfl (.agg (rootV ⟨y1a, y1e, y1b, dv.toNat⟩).toArray) (.agg (rootV r0).toArray) rfl rfl false (eqg_root ⟨y1a, y1e, y1b, dv.toNat⟩ r0 _ _ _) ((eq_root ⟨y1a, y1e, y1b, dv.toNat⟩ r0 _).trans (by rw [HTB.out])) ?_))

                    go_ret
                    exact ⟨rfl, B1.out.trans (X12.out.2.mono B1.out.size)⟩
                  · have K12 := hid (Blk.below K11.out (below_drew w11))
                    have Z12 := hid (Blk.below Z11.out (below_drew w11))
                    have X12 := hid (X11.out.below (below_drew w11))
                    generalize w11.drew = w12 at K12 Z12 X12 ⊢
                    clear K11 Z11 X11 O11 K9'
                    go_wp2_with (first | (refine wpList_load_blk (o := ⟨some 124, _, _, _, _, _⟩) 67 (.tmp 19) rfl rfl y2 (rootV ⟨y1a, y1e, y1b, dv.toNat⟩) 67 rfl K12.out ⟨_, Tryd.underlying67, rfl⟩ size_root ?_) | (refine wpList_load_blk (o := ⟨some 125, _, _, _, _, _⟩) 67 (.tmp 11) rfl rfl z (rootV r0) 67 rfl Z12.out ⟨_, Tryd.underlying67, rfl⟩ size_root ?_) | (refine wpList_eqlB (o := ⟨some 126, _, _, _, _, _⟩) 67 67 (.tmp 124) (.tmp 125) rfl rfl (.agg (rootV ⟨y1a, y1e, y1b, dv.toNat⟩).toArray) (.agg (rootV r0).toArray) rfl rfl true (eqg_root ⟨y1a, y1e, y1b, dv.toNat⟩ r0 _ _ _) ((eq_root ⟨y1a, y1e, y1b, dv.toNat⟩ r0 _).trans (by rw [HTB.out])) ?_))

                    go_ret
                    exact ⟨rfl, B1.out.trans (X12.out.2.mono B1.out.size)⟩
              · have e2 : ((n8 : Int) == 1) = false := by simp; omega
                have c4 := K9'.out.get 4 rfl
                obtain ⟨hx1, hx2⟩ : rx = r0 ∧ ex = 0 := by
                  rcases HLD.out with hl | ⟨_, hl, _⟩
                  · simpa using hl
                  · dsimp only at hl; omega
                subst hx1 hx2
                as_aux_lemma =>
                go_region
                clear c4
                have K12 := hid (Blk.below K11.out (below_drew w11))
                have Z12 := hid (Blk.below Z11.out (below_drew w11))
                have X12 := hid (X11.out.below (below_drew w11))
                generalize w11.drew = w12 at K12 Z12 X12 ⊢
                clear K11 Z11 X11 O11 K9'
                go_wp2_with (first | (refine wpList_load_blk (o := ⟨some 124, _, _, _, _, _⟩) 67 (.tmp 19) rfl rfl y2 (rootV rx) 67 rfl K12.out ⟨_, Tryd.underlying67, rfl⟩ size_root ?_) | (refine wpList_load_blk (o := ⟨some 125, _, _, _, _, _⟩) 67 (.tmp 11) rfl rfl z (rootV rx) 67 rfl Z12.out ⟨_, Tryd.underlying67, rfl⟩ size_root ?_) | (refine wpList_eqlB (o := ⟨some 126, _, _, _, _, _⟩) 67 67 (.tmp 124) (.tmp 125) rfl rfl (.agg (rootV rx).toArray) (.agg (rootV rx).toArray) rfl rfl true (eqg_root rx rx _ _ _) ((eq_root rx rx _).trans (by rw [rootEq_self])) ?_))

                go_ret
                exact ⟨rfl, B1.out.trans (X12.out.2.mono B1.out.size)⟩
            · have e1 : ((ey : Int) == 0) = false := by simp; omega
              obtain ⟨hx1, hx2⟩ : rx = r0 ∧ ex = 0 := by
                rcases HLD.out with hl | ⟨hl, _, _⟩
                · simpa using hl
                · dsimp only at hl; omega
              subst hx1 hx2
              as_aux_lemma =>
              go_region
              have K12 := hid (Blk.below K11.out (below_drew w11))
              have Z12 := hid (Blk.below Z11.out (below_drew w11))
              have X12 := hid (X11.out.below (below_drew w11))
              generalize w11.drew = w12 at K12 Z12 X12 ⊢
              clear K11 Z11 X11 O11 K9'
              go_wp2_with (first | (refine wpList_load_blk (o := ⟨some 124, _, _, _, _, _⟩) 67 (.tmp 19) rfl rfl y2 (rootV rx) 67 rfl K12.out ⟨_, Tryd.underlying67, rfl⟩ size_root ?_) | (refine wpList_load_blk (o := ⟨some 125, _, _, _, _, _⟩) 67 (.tmp 11) rfl rfl z (rootV rx) 67 rfl Z12.out ⟨_, Tryd.underlying67, rfl⟩ size_root ?_) | (refine wpList_eqlB (o := ⟨some 126, _, _, _, _, _⟩) 67 67 (.tmp 124) (.tmp 125) rfl rfl (.agg (rootV rx).toArray) (.agg (rootV rx).toArray) rfl rfl true (eqg_root rx rx _ _ _) ((eq_root rx rx _).trans (by rw [rootEq_self])) ?_))

              go_ret
              exact ⟨rfl, B1.out.trans (X12.out.2.mono B1.out.size)⟩
          · as_aux_lemma =>
            have hke2 : ((k : Int) == (at0 : Int) % 20) = false := by simp; omega
            have hF := storeB_rt (r' := r) hrt.out RT.out RO.out RA.out
            have HRt := hid hF.2
            have HF := hid hF.1
            clear hF hka
            go_upto_if 58 with fail

            have hS := sx_store w1 w4 g s [q, z] r X4.out RO.out (X4.out.sa.laid L1.out) (by have := ST.out.1; omega) (by have := ST.out.2; omega)
            rw [HF.out] at hS
            have HS := hid hS
            clear hS
            go_upto_if 70 with (first | (refine wpList_load_blk (o := ⟨some 67, _, _, _, _, _⟩) 61 (.tmp 13) rfl rfl q (rootV r) 61 rfl K4.out ⟨_, Tryd.underlying61, rfl⟩ size_rroot ?_) | (go_at_call 26; go_loud (refine HS.out.mono ?_; rintro e w5 ⟨rfl, h5, k5⟩; have X5 := hid h5; have Z5 := hid (Blk.x Z4.out k5 (by simp)); have K5 := hid (Blk.x K4.out k5 (by simp)); clear h5 k5)))
            clear HS

            go_wp2_with (first | (refine wpList_load_blk (o := ⟨some 131, _, _, _, _, _⟩) 61 (.tmp 13) rfl rfl q (rootV r) 61 rfl K5.out ⟨_, Tryd.underlying61, rfl⟩ size_rroot ?_) | (refine wpList_store_blk (o := ⟨none, _, 0, _, _, _⟩) 67 (.tmp 11) (.tmp 131) rfl rfl z (rootV r0) (rootV r) 67 rfl rfl Z5.out rfl size_root (by simp [rootV, Value.oneCell']) ?_; intro w6 hZ6 hC6; have Z6 := hid hZ6; have C6 := hid hC6; clear hZ6 hC6))
            have X6 := hid ((X5.out.chg C6.out (by intro x hx; simp at hx; simp [hx])).less (Y := [z]) (by simp))
            have R : BrRel w w1 g z l0.length (.int .i64 ((k : Int) + 1)) w6 :=
              ⟨k + 1, afterR s r, r, by go_num, hkl, h20, X6.out, Z6.out, ⟨by rw [afterR_steps]; have := ST.out.1; omega, afterR_way s r⟩, B1.out.trans (X6.out.2.mono B1.out.size), .inr ⟨by omega, HRt.out⟩⟩
            refine ⟨?_, by simp [intOf]; omega⟩
            first | exact R | ((repeat apply Exists.intro); refine ⟨R, ?_⟩; and_intros <;> rfl)
      · as_aux_lemma =>
        have h20' : (20 : Int) ≤ (k : Int) := by omega
        go_upto_region 27 with fail
        clear d0 d1 d2 d3
        obtain ⟨q, hq⟩ : ∃ q, wr.heap.size = q := ⟨_, rfl⟩
        rw [hq] at KQ XQ ⊢
        clear hq
        generalize (wr.alloc (.cells #[.int .u32 (t1 : Int), .int .u32 (e1 : Int), .int .u32 (g1 : Int), .int .u8 (ar1 : Int)] 61)) = wq at KQ XQ ZQ BQ ⊢
        have HL := sa_load w1 wq g s XQ.out.sa (XQ.out.sa.laid L1.out)
        rcases CS.out with ⟨hk0, hs0, hr0⟩ | ⟨hk1, hrt⟩
        · exfalso
          omega
        · clear CS
          have hn0 : ((l0.length : Int) == 0) = false := by simp; intro h; rw [h] at hk; simp at hk; omega
          rw [hrt.load] at HL
          replace HL := hid HL
          clear hrt
          go_upto_region 28 with (first | (go_at_call 28; go_loud (refine HL.out.mono ?_; rintro e w5 ⟨rfl, hb5⟩; dsimp only; have B5 := hid hb5; clear hb5)))
          have K6 := hid (show Blk (w5.alloc (.cells #[.int .u32 (r0.turn : Int), .int .u32 (r0.epoch : Int), .int .u32 (r0.gen : Int), .int .u8 (r0.area : Int)] 67)) w5.heap.size (rootV r0) 67 from blk_alloc w5 (rootV r0) 67)
          have b6 := below_alloc w5 (.cells #[.int .u32 (r0.turn : Int), .int .u32 (r0.epoch : Int), .int .u32 (r0.gen : Int), .int .u8 (r0.area : Int)] 67)
          have Z6 := hid (Blk.below (Blk.below ZQ.out B5.out) b6)
          have B6 := hid ((BQ.out.trans (B5.out.mono BQ.out.size)).trans (b6.mono (Nat.le_trans BQ.out.size B5.out.size)))
          generalize (w5.alloc (.cells #[.int .u32 (r0.turn : Int), .int .u32 (r0.epoch : Int), .int .u32 (r0.gen : Int), .int .u8 (r0.area : Int)] 67)) = w6 at K6 Z6 B6 b6 ⊢
          obtain ⟨y, hy⟩ : ∃ y, w5.heap.size = y := ⟨_, rfl⟩
          rw [hy] at K6 ⊢
          clear hy b6 HL
          go_wp2_with (first | (refine wpList_load_blk (o := ⟨some 145, _, _, _, _, _⟩) 67 (.tmp 22) rfl rfl y (rootV r0) 67 rfl K6.out ⟨_, Tryd.underlying67, rfl⟩ size_root ?_) | (refine wpList_load_blk (o := ⟨some 146, _, _, _, _, _⟩) 67 (.tmp 11) rfl rfl z (rootV r0) 67 rfl Z6.out ⟨_, Tryd.underlying67, rfl⟩ size_root ?_) | (refine wpList_eqlB (o := ⟨some 147, _, _, _, _, _⟩) 67 67 (.tmp 145) (.tmp 146) rfl rfl (.agg (rootV r0).toArray) (.agg (rootV r0).toArray) rfl rfl true (eqg_root r0 r0 _ _ _) ((eq_root r0 r0 _).trans (by rw [rootEq_self])) ?_))
          go_ret
          exact ⟨rfl, B6.out⟩
    · as_aux_lemma =>
      have hke : ¬ ((k : Int) < (l0.length : Int)) := by omega
      go_upto_region 27 with fail
      have HL := sa_load w1 wr g s SXs.out.sa (SXs.out.sa.laid L1.out)
      rcases CS.out with ⟨hk0, hs0, hr0⟩ | ⟨hk1, hrt⟩
      · have hn0 : ((l0.length : Int) == 0) = true := by simp; have := l0.length; exact List.length_eq_zero_iff.1 (by omega)
        clear hk0 hs0 hr0 CS
        obtain ⟨⟨rx, ex⟩, hY⟩ : ∃ Y, loadB s = Y := ⟨_, rfl⟩
        rw [hY] at HL
        replace HL := hid HL
        clear hY
        go_upto_region 28 with (first | (go_at_call 28; go_loud (refine HL.out.mono ?_; rintro e w5 ⟨rfl, hb5⟩; dsimp only; have B5 := hid hb5; clear hb5)))
        go_wp2_with fail
        go_ret
        exact ⟨rfl, (BW.out.trans (B5.out.mono BW.out.size)).trans ((below_alloc w5 _).mono (Nat.le_trans BW.out.size B5.out.size))⟩
      · clear CS
        have hn0 : ((l0.length : Int) == 0) = false := by simp; intro h; rw [h] at hk; simp at hk; omega
        rw [hrt.load] at HL
        replace HL := hid HL
        clear hrt
        go_upto_region 28 with (first | (go_at_call 28; go_loud (refine HL.out.mono ?_; rintro e w5 ⟨rfl, hb5⟩; dsimp only; have B5 := hid hb5; clear hb5)))
        have K6 := hid (show Blk (w5.alloc (.cells #[.int .u32 (r0.turn : Int), .int .u32 (r0.epoch : Int), .int .u32 (r0.gen : Int), .int .u8 (r0.area : Int)] 67)) w5.heap.size (rootV r0) 67 from blk_alloc w5 (rootV r0) 67)
        have b6 := below_alloc w5 (.cells #[.int .u32 (r0.turn : Int), .int .u32 (r0.epoch : Int), .int .u32 (r0.gen : Int), .int .u8 (r0.area : Int)] 67)
        have Z6 := hid (Blk.below (Blk.below ZB.out B5.out) b6)
        have B6 := hid ((BW.out.trans (B5.out.mono BW.out.size)).trans (b6.mono (Nat.le_trans BW.out.size B5.out.size)))
        generalize (w5.alloc (.cells #[.int .u32 (r0.turn : Int), .int .u32 (r0.epoch : Int), .int .u32 (r0.gen : Int), .int .u8 (r0.area : Int)] 67)) = w6 at K6 Z6 B6 b6 ⊢
        obtain ⟨y, hy⟩ : ∃ y, w5.heap.size = y := ⟨_, rfl⟩
        rw [hy] at K6 ⊢
        clear hy b6 HL
        go_wp2_with (first | (refine wpList_load_blk (o := ⟨some 145, _, _, _, _, _⟩) 67 (.tmp 22) rfl rfl y (rootV r0) 67 rfl K6.out ⟨_, Tryd.underlying67, rfl⟩ size_root ?_) | (refine wpList_load_blk (o := ⟨some 146, _, _, _, _, _⟩) 67 (.tmp 11) rfl rfl z (rootV r0) 67 rfl Z6.out ⟨_, Tryd.underlying67, rfl⟩ size_root ?_) | (refine wpList_eqlB (o := ⟨some 147, _, _, _, _, _⟩) 67 67 (.tmp 145) (.tmp 146) rfl rfl (.agg (rootV r0).toArray) (.agg (rootV r0).toArray) rfl rfl true (eqg_root r0 r0 _ _ _) ((eq_root r0 r0 _).trans (by rw [rootEq_self])) ?_))
        go_ret
        exact ⟨rfl, B6.out⟩
end Go.Proofs.YtkaidbfpgdfpfaaDoor
