/- BlockMaps: every script of places that are taken, marked and freed has the document's answers. -/
import Derived.Test.YtkaidbfpgdfpfaaDoorBmA
import Derived.Test.YtkaidbfpgdfpfaaDoorBlkK
import Derived.Deep.CutBlock
import Derived.Deep.DeepMust
import Derived.RegionTactic
import Derived.BigRegion
import Derived.Deep.RegionWith
import Derived.Deep.CutRange
namespace Go.Proofs.YtkaidbfpgdfpfaaDoor
open Go.RowKit Go.Quad _root_.Quad
def BmTo (w : World) (e : Ending) (w' : World) : Prop := e = .returned (.bool true) ∧ Below w.heap.size w w'

set_option maxRecDepth 100000 in
set_option maxHeartbeats 20000000 in
theorem blockMaps_walk (n : Int) (v1 : Value) (w : World) (hn : (Lit.int .i64 n).wf = true) (h1 : RV Tryd.prog w 39 v1) (hq : Laid w) :
    Calls Tryd.prog 4 #[.int .i64 n, v1] w (BmTo w) := by
  obtain ⟨a0, c0, l0, rfl, hok0, hcs0, hlc0⟩ := ints_open h1
  have hnb := bounds_i64 hn
  have m0 : l0.length ≤ 9223372036854775807 := by have := hcs0.max; unfold maxLen at this; omega
  have Hok := hid hok0
  have Hcs := hid hcs0
  have HQ := hid hq
  obtain ⟨i0, hi, hz0, hz1, hz2⟩ := info_parts info_boolM
  have Hi := hid hi; have Hz0 := hid hz0; have Hz1 := hid hz1; have Hz2 := hid hz2
  obtain ⟨N, hN⟩ : ∃ N, (if 60 < n then 60 else n) = N := ⟨_, rfl⟩
  have HN := hid hN
  have hN60 : N ≤ 60 := by split at hN <;> omega
  have hNb : -9223372036854775808 ≤ N := by split at hN <;> omega
  obtain ⟨K, hK⟩ : ∃ K, N.toNat = K := ⟨_, rfl⟩
  have HK := hid hK
  have hK60 : (K : Int) ≤ 60 := by omega
  clear hN hK hi hz0 hz1 hz2 h1 hn hok0 hcs0 hq hlc0
  go_enter Tryd.func4, Tryd.ntmps4
  go_wp2_with fail
  refine (bawake_calls w HQ.out).mono ?_
  rintro e w1 ⟨rfl, hb1⟩
  have B1 := hid hb1
  clear hb1
  go_upto_region 4 with fail
  rw [HN.out]
  go_wp2_with fail
  have hC := newmap_calls w1 N (by omega)
  rw [HK.out] at hC
  refine hC.mono ?_
  rintro e w2 ⟨g, d, rfl, hM2, hB2, hg2, hd2⟩
  have M2 := hid hM2
  have B2 := hid hB2
  have G2 := hid (And.intro hg2 hd2)
  clear hC hM2 hB2 hg2 hd2
  go_upto_region 6 with fail
  go_cut [7] from 30 to 32 (fun v w' => BmMade w2 K v w')
  case first =>
    by_cases h0 : N < 0
    · obtain rfl : K = 0 := by have := HK.out; omega
      go_wp2_with (at_make; go_must (refine wpList_make_full _ rfl (.tmp 31) (.tmp 31) _ rfl w2.heap.size 4 i0 (.bool false) 1 under_boolsM Hi.out Hz0.out Hz1.out .i64 .i64 _ _ 0 rfl rfl (by omega) (by omega) (by rw [Hz2.out]; omega) (by unfold maxLen; omega) (Nat.le_refl _) ?_; intro w3 hown hgr))
      have hB := blk_of_owned (row_made _ (z := .bool false) rfl hown)
      go_meet
      have R : BmMade w2 0 (.slice (some ⟨w2.heap.size, 0, none⟩) 0 0) w3 := ⟨_, rfl, Nat.le_refl _, by rw [List.map_replicate]; exact hB, grownBy_below hgr (Nat.le_refl _) (by simp)⟩
      first | exact R | ((repeat apply Exists.intro); refine ⟨R, ?_⟩; and_intros <;> rfl)
    · obtain rfl : N = (K : Int) := by have := HK.out; omega
      go_wp2_with (at_make; go_must (refine wpList_make_full _ rfl (.tmp 31) (.tmp 31) _ rfl w2.heap.size 4 i0 (.bool false) 1 under_boolsM Hi.out Hz0.out Hz1.out .i64 .i64 _ _ K rfl rfl (by omega) (by omega) (by rw [Hz2.out]; omega) (by unfold maxLen; omega) (Nat.le_refl _) ?_; intro w3 hown hgr))
      have hB := blk_of_owned (row_made _ (z := .bool false) rfl hown)
      go_meet
      have R : BmMade w2 K (.slice (some ⟨w2.heap.size, 0, none⟩) K K) w3 := ⟨_, rfl, Nat.le_refl _, by rw [List.map_replicate]; exact hB, grownBy_below hgr (Nat.le_refl _) (by simp)⟩
      first | exact R | ((repeat apply Exists.intro); refine ⟨R, ?_⟩; and_intros <;> rfl)
  case rest =>
    obtain ⟨t, rfl, ht, hrow, hb3⟩ := hcut
    have S3 := hid (show BmSt w g d t K (List.replicate K false) (List.replicate K false) wc from
      ⟨M2.out.below hb3, hrow, ⟨List.length_replicate .., List.length_replicate ..⟩,
       ⟨fun e => by have := M2.out.own.lt; omega, fun e => by have := M2.out.row.lt; omega⟩,
       ⟨Nat.le_trans B1.out.size G2.out.1, Nat.le_trans B1.out.size G2.out.2, by have := B1.out.size; have := B2.out.size; omega⟩,
       B1.out.trans ((B2.out.trans (hb3.mono B2.out.size)).mono B1.out.size)⟩)
    clear ht hrow hb3 M2 B2 G2 hN60 hNb hnb
    go_wp2_with fail
    go_loopw [35] (fun iv wr => BmRel w g d t K l0.length iv wr) (fun iv _ => l0.length - (intOf iv).toNat)
    case atStart => exact ⟨0, _, rfl, Nat.zero_le _, by omega, S3.out⟩
    case round =>
      clear S3 HN HK
      obtain ⟨k, M, rfl, hk, hk80, hS⟩ := hrel
      have S := hid hS
      clear hS
      have hML := hid S.out.len.1
      by_cases hkl : k < l0.length
      · have hkl' : (k : Int) < (l0.length : Int) := by omega
        have ho := Hok.out _ (List.getElem_mem hkl)
        obtain ⟨bo, off, rfl, hc⟩ := cs_row inI_length Hcs.out hkl (by decide)
        have d0 := cell_later S.out.bel (hc 0 _ rfl)
        clear hc
        generalize l0[k] = o at ho d0
        rw [Nat.add_zero, Nat.mul_one] at d0
        by_cases h80 : k < 80
        · have h80' : ¬ ((80 : Int) ≤ (k : Int)) := by omega
          obtain ⟨wo, hwo⟩ : ∃ wo : World, wo = wr := ⟨_, rfl⟩
          rw [← hwo]
          rw [← hwo] at S d0
          clear hwo
          go_upto_region 12 with fail
          clear d0
          go_wp2_with fail
          go_loopw [10, 44] (fun v iv w' => BmCnt M wo v iv w') (fun _ iv _ => K - (intOf iv).toNat)
          case atStart => exact ⟨0, rfl, rfl, Nat.zero_le _, rfl⟩
          case round =>
            obtain ⟨j, rfl, rfl, hj, rfl⟩ := hrel
            have hlj : (leftM (M.take j) : Int) ≤ 60 := by have := left_take_le M j; have := hML.out; omega
            have HJ := hid hj
            clear hj
            by_cases hjl : j < K
            · have hjl' : (j : Int) < (K : Int) := by omega
              obtain ⟨b, hb⟩ : ∃ b, M[j]? = some b := ⟨_, List.getElem?_eq_getElem (by rw [hML.out]; exact hjl)⟩
              have d1 := S.out.get hb
              have hlt := left_take (M := M) (j := j) (by rw [hML.out]; exact hjl)
              obtain ⟨hq1, hq2⟩ := List.getElem?_eq_some_iff.1 hb
              rw [hq2] at hlt
              have HT := hid hlt
              clear hb hlt hq1 hq2
              have e1 := hid (show ((leftM (M.take j) : Nat) : Int) + 1 = ((leftM (M.take j) + 1 : Nat) : Int) from by omega)
              cases b
              · go_wp2_with fail
                have R : BmCnt M wo (.int .i64 ((leftM (M.take j) : Int) + 1)) (.int .i64 ((j : Int) + 1)) wo := ⟨j + 1, by rw [HT.out]; rfl, by go_num, by have := hML.out; omega, rfl⟩
                refine ⟨?_, by simp [intOf]; omega⟩
                first | exact R | ((repeat apply Exists.intro); refine ⟨R, ?_⟩; and_intros <;> rfl)
              · go_wp2_with fail
                have R : BmCnt M wo (.int .i64 (leftM (M.take j) : Int)) (.int .i64 ((j : Int) + 1)) wo := ⟨j + 1, by rw [HT.out]; rfl, by go_num, by have := hML.out; omega, rfl⟩
                refine ⟨?_, by simp [intOf]; omega⟩
                first | exact R | ((repeat apply Exists.intro); refine ⟨R, ?_⟩; and_intros <;> rfl)
            · obtain rfl : j = K := by have := hML.out; have := HJ.out; omega
              have hjl' : ¬ ((j : Int) < (j : Int)) := by omega
              rw [show M.take j = M from by rw [← hML.out]; exact List.take_length] at hlj ⊢
              go_upto_region 19 with fail
              obtain ⟨x, hx⟩ : ∃ x, o.tdiv 4 = x := ⟨_, rfl⟩
              rw [hx]
              clear hx
              obtain ⟨inb, hinb⟩ : ∃ inb : Bool, inb = decide (0 ≤ x ∧ x < (j : Int)) := ⟨_, rfl⟩
              have Hin := hid hinb
              clear hinb
              go_cut [14] from 55 to 62 (fun v w' => v = .bool inb ∧ wo = w')
              case first =>
                by_cases x0 : x < 0
                · have x0' : ¬ (0 ≤ x) := by omega
                  have hI : inb = false := by rw [Hin.out]; exact decide_eq_false (by omega)
                  have HI := hid hI
                  clear hI
                  go_wp2_with fail
                  go_meet
                  have R : Value.bool false = .bool inb ∧ wo = wo := ⟨by rw [HI.out], rfl⟩
                  first | exact R | ((repeat apply Exists.intro); refine ⟨R, ?_⟩; and_intros <;> rfl)
                · by_cases x1 : x < (j : Int)
                  · have hI : inb = true := by rw [Hin.out]; exact decide_eq_true (by omega)
                    have HI := hid hI
                    clear hI
                    go_wp2_with fail
                    go_meet
                    have R : Value.bool true = .bool inb ∧ wo = wo := ⟨by rw [HI.out], rfl⟩
                    first | exact R | ((repeat apply Exists.intro); refine ⟨R, ?_⟩; and_intros <;> rfl)
                  · have hI : inb = false := by rw [Hin.out]; exact decide_eq_false (by omega)
                    have HI := hid hI
                    clear hI
                    go_wp2_with fail
                    go_meet
                    have R : Value.bool false = .bool inb ∧ wo = wo := ⟨by rw [HI.out], rfl⟩
                    first | exact R | ((repeat apply Exists.intro); refine ⟨R, ?_⟩; and_intros <;> rfl)
              case rest =>
                obtain ⟨rfl, rfl⟩ := hcut
                go_upto_block 4 with fail
                obtain ⟨y, hy⟩ : ∃ y, o.tmod 4 = y := ⟨_, rfl⟩
                rw [hy]
                clear hy
                have S4 := hid S.out
                clear S
                obtain ⟨w4, hw4⟩ : ∃ w4 : World, w4 = wo := ⟨_, rfl⟩
                rw [← hw4] at S4 ⊢
                clear hw4
                go_cut [] from 36 to 195 (fun w' => BmMid w g d t j w')
                case first =>
                  by_cases y0 : y = 0
                  · have e0 : (y == 0) = true := by simpa using y0
                    cases inb
                    · have hm := markM_out (M := M) (i := x) true (by have := of_decide_eq_false Hin.out.symm; have := hML.out; omega)
                      have C := fun (W : World) (hW : IsMp W g d M) => mark_calls W g d M x hW
                      simp only [hm] at C
                      have HC := hid C
                      clear hm C
                      go_upto_region 38 with fail
                      go_wp2_with (first | (go_at_call 16; refine (HC.out _ S4.out.mp).mono ?_; rintro e w5 ⟨rfl, hm5, hc5⟩; have S5 := hid (S4.out.call hm5 hML.out hc5); clear hm5 hc5; dsimp only) | (go_at_call 16; refine (nilmark_calls _ _).mono ?_; rintro e w6 ⟨rfl, rfl⟩))
                      go_meet
                      have R : BmMid w g d t j w5 := ⟨_, S5.out⟩
                      first | exact R | ((repeat apply Exists.intro); refine ⟨R, ?_⟩; and_intros <;> rfl)
                    · have hin := of_decide_eq_true Hin.out.symm
                      obtain ⟨i, rfl⟩ : ∃ i : Nat, x = i := ⟨x.toNat, by omega⟩
                      have hi : i < j := by omega
                      obtain ⟨c, hc⟩ : ∃ c, M[i]? = some c := ⟨_, List.getElem?_eq_getElem (by rw [hML.out]; exact hi)⟩
                      have hm0 := markM_in (M := M) (i := i) true (by rw [hML.out]; exact hi) hc
                      go_upto_region 38 with fail
                      cases c
                      · have hm : markM M i true = (M.set i true, true) := hm0
                        have C := fun (W : World) (hW : IsMp W g d M) => mark_calls W g d M i hW
                        simp only [hm] at C
                        have HC := hid C
                        have HCC := hid hc
                        clear hm C hc hm0
                        go_wp2_with (first | (go_at_call 16; refine (HC.out _ S4.out.mp).mono ?_; rintro e w5 ⟨rfl, hm5, hc5⟩; have S5 := hid (S4.out.call hm5 (by rw [List.length_set]; exact hML.out) hc5); have d5 := S5.out.get HCC.out; have f5 := S5.out.row.free i; clear hm5 hc5; dsimp only) | (go_at_call 16; refine (nilmark_calls _ _).mono ?_; rintro e w6 ⟨rfl, rfl⟩))
                        go_meet
                        have R : BmMid w g d t j (w5.setCell ⟨t, i, none⟩ (.bool true)) := ⟨_, S5.out.set i true⟩
                        first | exact R | ((repeat apply Exists.intro); refine ⟨R, ?_⟩; and_intros <;> rfl)
                      · have hm : markM M i true = (M.set i true, false) := hm0
                        have C := fun (W : World) (hW : IsMp W g d M) => mark_calls W g d M i hW
                        simp only [hm] at C
                        have HC := hid C
                        have HCC := hid hc
                        clear hm C hc hm0
                        go_wp2_with (first | (go_at_call 16; refine (HC.out _ S4.out.mp).mono ?_; rintro e w5 ⟨rfl, hm5, hc5⟩; have S5 := hid (S4.out.call hm5 (by rw [List.length_set]; exact hML.out) hc5); have d5 := S5.out.get HCC.out; have f5 := S5.out.row.free i; clear hm5 hc5; dsimp only) | (go_at_call 16; refine (nilmark_calls _ _).mono ?_; rintro e w6 ⟨rfl, rfl⟩))
                        go_meet
                        have R : BmMid w g d t j (w5.setCell ⟨t, i, none⟩ (.bool true)) := ⟨_, S5.out.set i true⟩
                        first | exact R | ((repeat apply Exists.intro); refine ⟨R, ?_⟩; and_intros <;> rfl)
                  · have e0 : (y == 0) = false := by simpa using y0
                    by_cases y1 : y = 1
                    · have e1 : (y == 1) = true := by simpa using y1
                      cases inb
                      · have hm := markM_out (M := M) (i := x) false (by have := of_decide_eq_false Hin.out.symm; have := hML.out; omega)
                        have C := fun (W : World) (hW : IsMp W g d M) => free_calls W g d M x hW
                        simp only [hm] at C
                        have HC := hid C
                        clear hm C
                        go_upto_region 43 with fail
                        go_wp2_with (first | (go_at_call 17; refine (HC.out _ S4.out.mp).mono ?_; rintro e w5 ⟨rfl, hm5, hc5⟩; have S5 := hid (S4.out.call hm5 hML.out hc5); clear hm5 hc5; dsimp only) | (go_at_call 17; refine (nilfree_calls _ _).mono ?_; rintro e w6 ⟨rfl, rfl⟩))
                        go_meet
                        have R : BmMid w g d t j w5 := ⟨_, S5.out⟩
                        first | exact R | ((repeat apply Exists.intro); refine ⟨R, ?_⟩; and_intros <;> rfl)
                      · have hin := of_decide_eq_true Hin.out.symm
                        obtain ⟨i, rfl⟩ : ∃ i : Nat, x = i := ⟨x.toNat, by omega⟩
                        have hi : i < j := by omega
                        obtain ⟨c, hc⟩ : ∃ c, M[i]? = some c := ⟨_, List.getElem?_eq_getElem (by rw [hML.out]; exact hi)⟩
                        have hm0 := markM_in (M := M) (i := i) false (by rw [hML.out]; exact hi) hc
                        go_upto_region 43 with fail
                        cases c
                        · have hm : markM M i false = (M.set i false, false) := hm0
                          have C := fun (W : World) (hW : IsMp W g d M) => free_calls W g d M i hW
                          simp only [hm] at C
                          have HC := hid C
                          have HCC := hid hc
                          clear hm C hc hm0
                          go_wp2_with (first | (go_at_call 17; refine (HC.out _ S4.out.mp).mono ?_; rintro e w5 ⟨rfl, hm5, hc5⟩; have S5 := hid (S4.out.call hm5 (by rw [List.length_set]; exact hML.out) hc5); have d5 := S5.out.get HCC.out; have f5 := S5.out.row.free i; clear hm5 hc5; dsimp only) | (go_at_call 17; refine (nilfree_calls _ _).mono ?_; rintro e w6 ⟨rfl, rfl⟩))
                          go_meet
                          have R : BmMid w g d t j (w5.setCell ⟨t, i, none⟩ (.bool false)) := ⟨_, S5.out.set i false⟩
                          first | exact R | ((repeat apply Exists.intro); refine ⟨R, ?_⟩; and_intros <;> rfl)
                        · have hm : markM M i false = (M.set i false, true) := hm0
                          have C := fun (W : World) (hW : IsMp W g d M) => free_calls W g d M i hW
                          simp only [hm] at C
                          have HC := hid C
                          have HCC := hid hc
                          clear hm C hc hm0
                          go_wp2_with (first | (go_at_call 17; refine (HC.out _ S4.out.mp).mono ?_; rintro e w5 ⟨rfl, hm5, hc5⟩; have S5 := hid (S4.out.call hm5 (by rw [List.length_set]; exact hML.out) hc5); have d5 := S5.out.get HCC.out; have f5 := S5.out.row.free i; clear hm5 hc5; dsimp only) | (go_at_call 17; refine (nilfree_calls _ _).mono ?_; rintro e w6 ⟨rfl, rfl⟩))
                          go_meet
                          have R : BmMid w g d t j (w5.setCell ⟨t, i, none⟩ (.bool false)) := ⟨_, S5.out.set i false⟩
                          first | exact R | ((repeat apply Exists.intro); refine ⟨R, ?_⟩; and_intros <;> rfl)
                    · have e1 : (y == 1) = false := by simpa using y1
                      clear y0 y1
                      by_cases hno : x < 0 ∨ (leftM M : Int) < x
                      · have HNo := hid hno
                        go_upto_region 22 with (go_at_call 18; refine (takeno_calls w4 g d M x S4.out.mp HNo.out).mono ?_; rintro e w5 ⟨rfl, rfl⟩; dsimp only)
                        by_cases x0 : x < 0
                        · have x0' : ¬ (0 ≤ x) := by omega
                          go_wp2_with fail
                          go_loopw [17, 100] (fun jv qv w' => jv = .int .i64 0 ∧ qv = .int .i64 0 ∧ w4 = w') (fun _ _ _ => 0)
                          case atStart => exact ⟨rfl, rfl, rfl⟩
                          case round =>
                            obtain ⟨rfl, rfl, rfl⟩ := hrel
                            go_wp2_with (go_at_call 18; refine (niltake_calls _ _).mono ?_; rintro e w6 ⟨rfl, rfl⟩; dsimp only)
                            go_meet
                            have R : BmMid w g d t j w4 := ⟨_, S4.out⟩
                            first | exact R | ((repeat apply Exists.intro); refine ⟨R, ?_⟩; and_intros <;> rfl)
                        · have x0' : 0 ≤ x := by omega
                          have x1' : ¬ (x ≤ (leftM M : Int)) := by omega
                          go_wp2_with fail
                          go_loopw [17, 100] (fun jv qv w' => jv = .int .i64 0 ∧ qv = .int .i64 0 ∧ w4 = w') (fun _ _ _ => 0)
                          case atStart => exact ⟨rfl, rfl, rfl⟩
                          case round =>
                            obtain ⟨rfl, rfl, rfl⟩ := hrel
                            go_wp2_with (go_at_call 18; refine (niltake_calls _ _).mono ?_; rintro e w6 ⟨rfl, rfl⟩; dsimp only)
                            go_meet
                            have R : BmMid w g d t j w4 := ⟨_, S4.out⟩
                            first | exact R | ((repeat apply Exists.intro); refine ⟨R, ?_⟩; and_intros <;> rfl)
                      · obtain ⟨q, rfl⟩ : ∃ q : Nat, x = q := ⟨x.toNat, by omega⟩
                        have hq : q ≤ leftM M := by omega
                        have hq' : ((q : Nat) : Int) ≤ (leftM M : Int) := by omega
                        clear hno
                        go_upto_region 22 with (go_at_call 18; refine (take_calls w4 g d M q S4.out.mp hq).mono ?_; rintro e w5 ⟨a5, c5, i5, rfl, hi5, hl5, ho5, hm5, hc5⟩; have I5 := hid hi5; have L5 := hid hl5; have O5 := hid ho5; have S5 := hid (S4.out.call hm5 (by rw [mkM_length hi5]; exact hML.out) hc5); clear hi5 hl5 ho5 hm5 hc5; dsimp only)
                        have hlt4 := hid (show t < w4.heap.size from S4.out.row.lt)
                        obtain ⟨L, hL⟩ : ∃ L, freeP M i5 = L := ⟨_, rfl⟩
                        rw [hL] at L5 O5
                        have HL := hid hL
                        clear hL
                        go_wp2_with fail
                        go_loopw [17, 100] (fun jv qv w' => BmOut w g d t j M (mkM M i5) L w5 jv qv w') (fun _ qv _ => q - (intOf qv).toNat)
                        case atStart => exact ⟨0, 0, rfl, rfl, Nat.zero_le _, Nat.zero_le _, fun x _ => Nat.zero_le x, S5.out, Chg.refl _ _⟩
                        case round =>
                          obtain ⟨jj, r, rfl, rfl, hr, hjj, hlt, hS6, hC6⟩ := hrel
                          have S6 := hid hS6
                          have C6 := hid hC6
                          have O6 := hid (O5.out.chg hC6 (fun x hx => by have := (O5.out.ownBlock x hx).1; have := hlt4.out; simp; omega))
                          have R6 := hid hr
                          clear hr hS6 hC6
                          obtain ⟨w6, hw6⟩ : ∃ w6 : World, w6 = wr := ⟨_, rfl⟩
                          rw [← hw6] at S6 C6 O6 ⊢
                          clear hw6
                          by_cases hrq : r < q
                          · have hrq' : (r : Int) < (q : Int) := by omega
                            have hrl : r < L.length := by rw [L5.out]; exact hrq
                            obtain ⟨a6, n6, c6, e6, hn6, hcs6⟩ := O6.out.cs
                            simp only [Value.slice.injEq] at e6
                            obtain ⟨rfl, rfl, rfl⟩ := e6
                            obtain ⟨b6, o6, rfl, hc⟩ := cs_row inM_length hcs6.2 hrl (by decide)
                            have d0 := hc 0 _ rfl
                            clear hc hcs6
                            rw [Nat.add_zero, Nat.mul_one] at d0
                            obtain ⟨pp, hpp⟩ : ∃ pp, L[r] = pp := ⟨_, rfl⟩
                            rw [hpp] at d0
                            have hp1 : pp < i5 ∧ M.getD pp true = false := by rw [← hpp]; have := HL.out; subst this; exact freeP_lt (List.getElem_mem hrl)
                            have hp2 : mkM M pp = mkM M (fromP L r) := by rw [← hpp]; have := HL.out; subst this; exact mk_from I5.out hrl
                            have hp3 : fromP L (r + 1) = pp + 1 := by unfold fromP; rw [if_neg (by omega), Nat.add_sub_cancel, List.getD_eq_getElem?_getD, List.getElem?_eq_getElem hrl, hpp]; rfl
                            have hp4 : ∀ x, L[r + 1]? = some x → pp ≤ x := by
                              intro x hx
                              obtain ⟨h1, h2⟩ := List.getElem?_eq_some_iff.1 hx
                              rw [← hpp, ← h2]
                              have := HL.out; subst this
                              exact Nat.le_of_lt (List.pairwise_iff_getElem.1 (freeP_rise (m := M) i5) r (r + 1) hrl h1 (by omega))
                            have hjp : jj ≤ pp := hlt pp (by rw [List.getElem?_eq_getElem hrl, hpp])
                            have hpj : pp < j := by have := hML.out; have := I5.out; omega
                            have hpj' : (pp : Int) < (j : Int) := by omega
                            have hT : (mkM M pp)[pp]? = some false := by
                              rw [mkM_get (Nat.le_refl _), List.getElem?_eq_getElem (by rw [hML.out]; exact hpj)]
                              have := hp1.2
                              rw [List.getD_eq_getElem?_getD, List.getElem?_eq_getElem (by rw [hML.out]; exact hpj)] at this
                              exact congrArg some this
                            have hset : (mkM M pp).set pp true = mkM M (fromP L (r + 1)) := by rw [hp3]; exact mkM_set (by rw [hML.out]; exact hpj)
                            rw [← hp2] at S6
                            have HT := hid hT
                            have HS := hid hset
                            have HP4 := hid hp4
                            have HJP := hid hjp
                            clear hT hset hp1 hp2 hp3 hp4 hjp hlt hpp hjj
                            go_wp2_with fail
                            go_loopw [17] (fun jv w' => BmIn pp w6 jv w') (fun jv _ => pp - (intOf jv).toNat)
                            case atStart => exact ⟨jj, rfl, HJP.out, rfl⟩
                            case round =>
                              obtain ⟨j2, rfl, hj2, rfl⟩ := hrel
                              by_cases hj3 : j2 < pp
                              · have d7 := S6.out.get (mkM_lt (m := M) hj3)
                                have hjj' : (j2 : Int) < (j : Int) := by omega
                                go_wp2_with fail
                                have R : BmIn pp w6 (.int .i64 ((j2 : Int) + 1)) w6 := ⟨j2 + 1, by go_num, by omega, rfl⟩
                                refine ⟨?_, by simp [intOf]; omega⟩
                                first | exact R | ((repeat apply Exists.intro); refine ⟨R, ?_⟩; and_intros <;> rfl)
                              · obtain ⟨z, hz1, hz2⟩ : ∃ z, z = j2 ∧ z = pp := ⟨j2, rfl, by omega⟩
                                subst hz1
                                subst hz2
                                have d7 := S6.out.get HT.out
                                have f7 := S6.out.row.free z
                                clear hj3 hj2
                                go_wp2_with fail
                                have R : BmOut w g d t j M (mkM M i5) L w5 (.int .i64 (z : Int)) (.int .i64 ((r : Int) + 1)) (w6.setCell ⟨t, z, none⟩ (.bool true)) :=
                                  ⟨z, r + 1, rfl, by go_num, hrl, by have := hML.out; omega, HP4.out, by rw [← HS.out]; exact S6.out.set z true, C6.out.trans (chg_setCell w6 t z _)⟩
                                refine ⟨?_, by simp [intOf]; omega⟩
                                first | exact R | ((repeat apply Exists.intro); refine ⟨R, ?_⟩; and_intros <;> rfl)
                          · obtain ⟨z, hz1, hz2⟩ : ∃ z, z = r ∧ z = q := ⟨r, rfl, by have := R6.out; have := L5.out; omega⟩
                            subst hz1
                            subst hz2
                            have hT : mkM M (fromP L z) = mkM M i5 := by
                              have h := mk_last (m := M) (i := i5) I5.out
                              rw [HL.out, L5.out] at h
                              exact h
                            rw [hT] at S6
                            clear hT hlt
                            go_wp2_with (go_at_call 18; refine (niltake_calls _ _).mono ?_; rintro e w7 ⟨rfl, rfl⟩; dsimp only)
                            go_meet
                            have R : BmMid w g d t j w6 := ⟨_, S6.out⟩
                            first | exact R | ((repeat apply Exists.intro); refine ⟨R, ?_⟩; and_intros <;> rfl)
                case rest =>
                  obtain ⟨M5, hS5⟩ := hcut
                  have S5 := hid hS5
                  clear hS5 S4 hlj hML hjl
                  have hML := hid S5.out.len.1
                  clear Hin
                  go_wp2_with fail
                  go_loopw [10, 177] (fun v iv w' => BmCnt M5 wc v iv w') (fun _ iv _ => j - (intOf iv).toNat)
                  case atStart => exact ⟨0, rfl, rfl, Nat.zero_le _, rfl⟩
                  case round =>
                    obtain ⟨i, rfl, rfl, hi, rfl⟩ := hrel
                    have hlj : (leftM (M5.take i) : Int) ≤ 60 := by have := left_take_le M5 i; have := hML.out; omega
                    have HJ := hid hi
                    clear hi
                    by_cases hil : i < j
                    · have hil' : (i : Int) < (j : Int) := by omega
                      obtain ⟨b, hb⟩ : ∃ b, M5[i]? = some b := ⟨_, List.getElem?_eq_getElem (by rw [hML.out]; exact hil)⟩
                      have d1 := S5.out.get hb
                      have hlt := left_take (M := M5) (j := i) (by rw [hML.out]; exact hil)
                      obtain ⟨hq1, hq2⟩ := List.getElem?_eq_some_iff.1 hb
                      rw [hq2] at hlt
                      have HT := hid hlt
                      clear hb hlt hq1 hq2
                      cases b
                      · go_wp2_with fail
                        have R : BmCnt M5 wc (.int .i64 ((leftM (M5.take i) : Int) + 1)) (.int .i64 ((i : Int) + 1)) wc := ⟨i + 1, by rw [HT.out]; rfl, by go_num, by have := hML.out; omega, rfl⟩
                        refine ⟨?_, by simp [intOf]; omega⟩
                        first | exact R | ((repeat apply Exists.intro); refine ⟨R, ?_⟩; and_intros <;> rfl)
                      · go_wp2_with fail
                        have R : BmCnt M5 wc (.int .i64 (leftM (M5.take i) : Int)) (.int .i64 ((i : Int) + 1)) wc := ⟨i + 1, by rw [HT.out]; rfl, by go_num, by have := hML.out; omega, rfl⟩
                        refine ⟨?_, by simp [intOf]; omega⟩
                        first | exact R | ((repeat apply Exists.intro); refine ⟨R, ?_⟩; and_intros <;> rfl)
                    · obtain ⟨z, hz1, hz2⟩ : ∃ z, z = i ∧ z = j := ⟨i, rfl, by have := hML.out; have := HJ.out; omega⟩
                      subst hz1
                      subst hz2
                      have hil' : ¬ ((z : Int) < (z : Int)) := by omega
                      rw [show M5.take z = M5 from by rw [← hML.out]; exact List.take_length] at hlj ⊢
                      obtain ⟨lf, hlf⟩ : ∃ lf, leftM M5 = lf := ⟨_, rfl⟩
                      have hC := left_calls wc g d M5 S5.out.mp
                      rw [hlf] at hC
                      have HC := hid hC
                      rw [hlf] at hlj ⊢
                      clear hC hlf
                      go_wp2_with (first | (go_at_call 19; refine HC.out.mono ?_; rintro e w5 ⟨rfl, rfl⟩) | (go_at_call 19; refine (nilleft_calls _).mono ?_; rintro e w6 ⟨rfl, rfl⟩))
                      have R : BmRel w g d t z l0.length (.int .i64 ((k : Int) + 1)) wc := ⟨k + 1, M5, by go_num, hkl, h80, S5.out⟩
                      refine ⟨?_, by simp [intOf]; omega⟩
                      first | exact R | ((repeat apply Exists.intro); refine ⟨R, ?_⟩; and_intros <;> rfl)
        · have h80' : (80 : Int) ≤ (k : Int) := by omega
          go_wp2_with fail
          go_ret
          exact ⟨rfl, S.out.bel⟩
      · have hkl' : ¬ ((k : Int) < (l0.length : Int)) := by omega
        go_wp2_with fail
        go_ret
        exact ⟨rfl, S.out.bel⟩
end Go.Proofs.YtkaidbfpgdfpfaaDoor
