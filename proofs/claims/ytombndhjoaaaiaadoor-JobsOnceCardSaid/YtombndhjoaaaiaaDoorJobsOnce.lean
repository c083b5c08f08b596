/- JobsOnce: each request once. -/
import Derived.Test.YtombndhjoaaaiaaDoorJobL
import Derived.Test.YtombndhjoaaaiaaDoorJobOnceM
namespace Go.Proofs.YtombndhjoaaaiaaDoor
open Go.RowKit Go.Quad _root_.Quad _root_.Quad.Ink

theorem finish_spent (t : TbD) (id : Nat) : (finishT t id).1.spent = t.spent := by
  unfold finishT
  split <;> rfl
def OnceRel (w : World) (T b m len : Nat) (nx iv : Value) (wr : World) : Prop := ∃ (k n0 : Nat) (t : TbD) (S : Nat → Bool), iv = .int .i64 (k : Int) ∧ nx = .int .u32 (n0 : Int) ∧ t.spent + 1 = n0 ∧ k ≤ len ∧ k ≤ 60 ∧ t.spent ≤ k ∧ OnceInv t S ∧ OW w wr T b m t S (64 * k) []
def OnceMid (w : World) (T b m : Nat) (t : TbD) (S : Nat → Bool) (N z : Nat) (o : JopD) (w' : World) : Prop := OW w w' T b m t S N [z] ∧ Blk w' z (jopV o) 48
def OnceEnd (w : World) (T b m n1 : Nat) (S : Nat → Bool) (N : Nat) (w' : World) : Prop := ∃ t, OW w w' T b m t S N [] ∧ OnceInv t S ∧ t.spent + 1 = n1
def OvRel (w : World) (T b m : Nat) (t : TbD) (N B : Nat) (v iv : Value) (wr : World) : Prop := ∃ (k : Nat) (S : Nat → Bool), iv = .int .i64 (k : Int) ∧ k ≤ t.over.length ∧ OnceInv t S ∧ OW w wr T b m t S (N + k) [] ∧ RO jobV 6 wr B 37 v t.over
def AcRel (w : World) (T b m : Nat) (t : TbD) (S : Nat → Bool) (N B : Nat) (v iv : Value) (wr : World) : Prop := ∃ (k : Nat), iv = .int .i64 (k : Int) ∧ k ≤ t.active.length ∧ OW w wr T b m t S N [] ∧ RO jobV 6 wr B 37 v t.active

set_option maxRecDepth 100000 in
set_option maxHeartbeats 20000000 in
theorem jobsOnce_walk (v0 v1 : Value) (w : World) (h0 : RV Tryd.prog w 46 v0) (h1 : RV Tryd.prog w 52 v1) (hq : Laid w) :
    Calls Tryd.prog 6 #[v0, v1] w fun e w' => e = .returned (.bool true) ∧ Below w.heap.size w w' := by
  obtain ⟨a0, cap0, l0, rfl, hok0, hcs0, hlc0⟩ := jops_open h0
  obtain ⟨a1, cap1, l1, rfl, hcs1⟩ := bools_open h1
  have m0 : (l0.length : Int) ≤ 9223372036854775807 := by have := hcs0.max; unfold maxLen at this; omega
  have m1 : (l1.length : Int) ≤ 9223372036854775807 := by have h2 := hcs1.max; have h3 := hcs1.fit; rw [flat_length bV1 1 bV1_length] at h3; unfold maxLen at h2; omega
  have Hok := hid hok0
  have Hcs := hid hcs0
  have Hcs1 := hid hcs1
  have HL := hid hq
  have hA := hid (jawake_calls w hq)
  clear hq h0 h1 hok0 hcs0 hlc0 hcs1
  have hmm := @run_makeMap Tryd.prog
  go_enter Tryd.func6, Tryd.ntmps6
  go_upto_region 3 with (go_at_call 9; go_loud (refine hA.out.mono ?_; rintro e w1 ⟨rfl, hb⟩; have hN := hid (lnew_calls w w1 hb); clear hb))
  go_upto_region 4 with (go_at_call 10; go_loud (refine hN.out.mono ?_; rintro e w2 ⟨T, b, rfl, hl0⟩; have L0 := hid hl0; clear hl0))
  clear hA hN
  go_upto_region 5 with fail
  obtain ⟨m, hm⟩ : ∃ m, w2.heap.size = m := ⟨_, rfl⟩
  have O0 := hid (show OW w (w2.alloc (.map #[] 0)) T b m (tJ 0 0) (fun _ => false) 0 [] from by
    rw [← hm]
    exact ⟨L0.out.mk1 _, L0.out.1.size, 0, .map [], Nat.le_refl _, World.ownsMap_made w2 Tryd.prog 28 boolR, SetIs.nil⟩)
  rw [hm]
  generalize (w2.alloc (.map #[] 0)) = w3 at O0 ⊢
  clear hm L0 hmm
  have N0 := hid (lnext_calls O0.out.1 1 rfl (by decide))
  go_upto_region 6 with (go_at_call 19; go_loud (refine N0.out.mono ?_; rintro e u9 ⟨rfl, rfl⟩))
  clear N0
  go_wp2_with fail
  go_loopw [8, 30] (fun nx iv wr => OnceRel w T b m l0.length nx iv wr) (fun _ iv _ => l0.length - (intOf iv).toNat)
  case atStart => exact ⟨0, 1, tJ 0 0, fun _ => false, rfl, rfl, rfl, Nat.zero_le _, Nat.zero_le _, Nat.le_refl _, ⟨fun id h => (by cases h), fun o ho => (by cases ho)⟩, O0.out⟩
  case round =>
    clear O0
    obtain ⟨k, n0, t, S, rfl, rfl, hn0, hk, hk60, hts, hinv, hO⟩ := hrel
    have O := hid hO
    have HI := hid hinv
    have Hn0 := hid hn0
    have Hts := hid hts
    have n0b : (n0 : Int) ≤ 61 := by omega
    clear hO hinv hn0 hts
    by_cases hkl : k < l0.length
    · have hkl' : (k : Int) < (l0.length : Int) := by omega
      have Ho := hid (Hok.out _ (List.getElem_mem hkl))
      obtain ⟨bo, off, rfl, hc⟩ := cs_row jopV_length Hcs.out hkl (by decide)
      have HR := hid (show wr.rangeAt bo (off + k * 9) (jopV l0[k]) from fun j v hv => cell_later O.out.1.1 (hc j v hv))
      clear hc
      generalize l0[k] = o at Ho HR
      have HKL := hid hkl
      clear hkl
      go_upto_region 9 with (first | (refine wpList_load_row6 (o := ⟨some 34, _, _, _, _, _⟩) 48 (.tmp 33) rfl rfl bo (off + k * 9) (jopV o) rfl HR.out row_jop size_jop ?_) | (refine wpListQ_alloc (o := ⟨some 10, _, _, _, _, _⟩) 48 rfl rfl zjop 9 info_jop ?_) | (refine wpListQ_store_new (o := ⟨none, _, 0, _, _, _⟩) rfl 48 (.tmp 10) (.tmp 34) rfl zjop (jopV o).toArray rfl rfl size_jop rfl (all_oneCell_toArray (jopV_one _)) ?_))
      obtain ⟨z, hz⟩ : ∃ z, wr.heap.size = z := ⟨_, rfl⟩
      have OQ := hid (show OW w (wr.alloc (.cells (jopV o).toArray 48)) T b m t S (64 * k) [z] from by rw [← hz]; exact O.out.mk1 _)
      have KQ := hid (show Blk (wr.alloc (.cells (jopV o).toArray 48)) z (jopV o) 48 from by rw [← hz]; exact blk_alloc wr (jopV o) 48)
      rw [hz]
      generalize (wr.alloc (.cells (jopV o).toArray 48)) = wq at OQ KQ ⊢
      clear hz HR O
      by_cases hk6 : k < 60
      · have hk6' : ¬ ((60 : Int) ≤ (k : Int)) := by omega
        obtain ⟨⟨t1, r1, d1⟩, hdo⟩ : ∃ x, doT t o.q = x := ⟨_, rfl⟩
        have htok := OQ.out.1.ok
        have HS := hid (show StepT t t1 from by have := StepT.do' htok o.q; rw [hdo] at this; exact this)
        have HAG := hid (show d1 = true → doT t1 o.q = (t1, r1, false) from fun h => by have := do_again htok o.q (by rw [hdo]; exact h); rw [hdo] at this; exact this)
        have HSP := hid (show t1.spent = t.spent ∨ (t1.spent = t.spent + 1 ∧ d1 = true) from by have := do_spent htok o.q; rw [hdo] at this; exact this)
        have HI1 := hid (HI.out.step htok HS.out)
        have D1 := lsdo_calls OQ.out.1 o.q Ho.out.q HL.out
        rw [hdo] at D1
        have HD1 := hid D1
        clear D1 hdo htok
        have RQ := hid (show wq.rangeAt z 1 (reqV o.q) from blk_part KQ.out 1 7)
        go_upto_region 11 with (first | (refine wpList_load_row6 (o := ⟨some 40, _, _, _, _, _⟩) 34 (.tmp 39) rfl rfl z 1 (reqV o.q) rfl RQ.out row_req size_req ?_) | (go_at_call 11; go_loud (refine HD1.out.mono ?_; intro e y1 hc; have hw := OQ.out.call hc; obtain ⟨rfl, _⟩ := hc; have O1 := hid hw.1; have KV := hid (blk_same KQ.out (hw.2 z (by simp))); clear hw; simp only [doRes])) | (refine wpListQ_alloc (o := ⟨some 11, _, _, _, _, _⟩) 30 rfl rfl zrep 6 info_rep ?_) | (refine wpListQ_store_new (o := ⟨none, _, 0, _, _, _⟩) rfl 30 (.tmp 11) (.tmp 42) rfl zrep (repV r1).toArray rfl rfl size_rep rfl (all_oneCell_toArray (repV_one _)) ?_))
        clear HD1 RQ OQ KQ
        obtain ⟨z1, hz1⟩ : ∃ z, y1.heap.size = z := ⟨_, rfl⟩
        have Nx1 := hid (show OW w (y1.alloc (.cells (repV r1).toArray 30)) T b m t1 S (64 * k) (z1 :: [z]) from by rw [← hz1]; exact O1.out.mk1 _)
        have Kx1 := hid (show Blk (y1.alloc (.cells (repV r1).toArray 30)) z1 (repV r1) 30 from by rw [← hz1]; exact blk_alloc y1 (repV r1) 30)
        have KW := hid (KV.out.below (below_alloc y1 (.cells (repV r1).toArray 30)))
        rw [hz1]
        generalize (y1.alloc (.cells (repV r1).toArray 30)) = x1 at Nx1 Kx1 KW ⊢
        clear hz1
        obtain ⟨n1, hn1⟩ : ∃ n1, t1.spent + 1 = n1 := ⟨_, rfl⟩
        have Hn1 := hid hn1
        have n1b : (n1 : Int) ≤ 62 := by have := Hn0.out; have := HSP.out; have := Hts.out; omega
        have HN1 := hid (lnext_calls Nx1.out.1 n1 hn1 (by have := Hn0.out; have := HSP.out; have := Hts.out; omega))
        clear hn1
        go_cut [64] from 44 to 63 (fun v w' => v = .bool false ∧ x1 = w')
        case first =>
          rcases HSP.out with hs | ⟨hs, rfl⟩
          · obtain rfl : n1 = n0 := by have := Hn0.out; have := Hn1.out; omega
            have q1 : decide ((n1 : Int) + 1 < (n1 : Int)) = false := decide_eq_false (by omega)
            clear hs
            go_wp2_with (go_at_call 19; go_loud (refine HN1.out.mono ?_; rintro e u9 ⟨rfl, rfl⟩))
            go_meet
            have R : Value.bool false = .bool false ∧ x1 = x1 := ⟨rfl, rfl⟩
            first | exact R | ((repeat apply Exists.intro); refine ⟨R, ?_⟩; and_intros <;> rfl)
          · obtain rfl : n1 = n0 + 1 := by have := Hn0.out; have := Hn1.out; omega
            have q1 : decide ((n0 : Int) + 1 < (n0 : Int)) = false := decide_eq_false (by omega)
            clear hs
            go_wp2_with (go_at_call 19; go_loud (refine HN1.out.mono ?_; rintro e u9 ⟨rfl, rfl⟩))
            go_meet
            have R : Value.bool false = .bool false ∧ x1 = x1 := ⟨rfl, rfl⟩
            first | exact R | ((repeat apply Exists.intro); refine ⟨R, ?_⟩; and_intros <;> rfl)
        case rest =>
          obtain ⟨rfl, rfl⟩ := hcut
          go_upto_region 14 with (go_at_call 19; go_loud (refine HN1.out.mono ?_; rintro e u9 ⟨rfl, rfl⟩))
          obtain ⟨g, hg⟩ : ∃ g : Bool, g = (d1 && (decide (k < l1.length) && l1.getD k false)) := ⟨_, rfl⟩
          have HG := hid hg
          clear hg
          go_cut [79] from 67 to 78 (fun v w' => v = .bool g ∧ x1 = w')
          case first =>
            cases d1
            · obtain rfl : g = false := HG.out
              go_wp2_with fail
              go_meet
              have R : Value.bool false = .bool false ∧ x1 = x1 := ⟨rfl, rfl⟩
              first | exact R | ((repeat apply Exists.intro); refine ⟨R, ?_⟩; and_intros <;> rfl)
            · by_cases hkl1 : k < l1.length
              · have hkl1' : (k : Int) < (l1.length : Int) := by omega
                obtain ⟨bo1, off1, rfl, hc⟩ := cs_row bV1_length Hcs1.out hkl1 (by decide)
                have d0 := cell_later Nx1.out.1.1 (hc 0 _ rfl)
                clear hc
                obtain ⟨gg, hgg⟩ : ∃ gg, l1[k] = gg := ⟨_, rfl⟩
                rw [hgg] at d0
                obtain rfl : gg = g := by rw [HG.out]; simp [hkl1, hgg]
                rw [Nat.add_zero, Nat.mul_one] at d0
                clear HG hgg hkl1
                go_wp2_with fail
                go_meet
                have R : Value.bool gg = .bool gg ∧ x1 = x1 := ⟨rfl, rfl⟩
                first | exact R | ((repeat apply Exists.intro); refine ⟨R, ?_⟩; and_intros <;> rfl)
              · have hkl1' : ¬ ((k : Int) < (l1.length : Int)) := by omega
                obtain rfl : g = false := by rw [HG.out]; simp [hkl1]
                clear HG hkl1
                go_wp2_with fail
                go_meet
                have R : Value.bool false = .bool false ∧ x1 = x1 := ⟨rfl, rfl⟩
                first | exact R | ((repeat apply Exists.intro); refine ⟨R, ?_⟩; and_intros <;> rfl)
          case rest =>
            obtain ⟨rfl, rfl⟩ := hcut
            go_upto_if 79 with fail
            go_cut [] from 80 to 98 (fun w' => OnceMid w T b m t1 S (64 * k) z o w')
            case first =>
              cases g
              · clear HG
                go_wp2_with fail
                go_meet
                have R : OnceMid w T b m t1 S (64 * k) z o x1 := ⟨Nx1.out.mono (by simp) (Nat.le_refl _), KW.out⟩
                first | exact R | ((repeat apply Exists.intro); refine ⟨R, ?_⟩; and_intros <;> rfl)
              · obtain rfl : d1 = true := by
                  have h := HG.out
                  cases d1 with
                  | true => rfl
                  | false => exact absurd h (by simp)
                have D2 := lsdo_calls Nx1.out.1 o.q Ho.out.q HL.out
                rw [HAG.out rfl] at D2
                have HD2 := hid D2
                clear D2 HG HN1
                have RQ := hid (show x1.rangeAt z 1 (reqV o.q) from blk_part KW.out 1 7)
                go_upto_region 16 with (first | (refine wpList_load_row6 (o := ⟨some 83, _, _, _, _, _⟩) 34 (.tmp 82) rfl rfl z 1 (reqV o.q) rfl RQ.out row_req size_req ?_) | (go_at_call 11; go_loud (refine HD2.out.mono ?_; intro e y2 hc; have hw := Nx1.out.call hc; obtain ⟨rfl, _⟩ := hc; have O2 := hid hw.1; have KV2 := hid (blk_same KW.out (hw.2 z (by simp))); have KR2 := hid (blk_same Kx1.out (hw.2 z1 (by simp))); clear hw; simp only [doRes])) | (refine wpListQ_alloc (o := ⟨some 13, _, _, _, _, _⟩) 30 rfl rfl zrep 6 info_rep ?_) | (refine wpListQ_store_new (o := ⟨none, _, 0, _, _, _⟩) rfl 30 (.tmp 13) (.tmp 85) rfl zrep (repV r1).toArray rfl rfl size_rep rfl (all_oneCell_toArray (repV_one _)) ?_))
                clear HD2 RQ
                obtain ⟨z2, hz2⟩ : ∃ z, y2.heap.size = z := ⟨_, rfl⟩
                have Nx2 := hid (show OW w (y2.alloc (.cells (repV r1).toArray 30)) T b m t1 S (64 * k) (z2 :: [z1, z]) from by rw [← hz2]; exact O2.out.mk1 _)
                have Kx2 := hid (show Blk (y2.alloc (.cells (repV r1).toArray 30)) z2 (repV r1) 30 from by rw [← hz2]; exact blk_alloc y2 (repV r1) 30)
                have KW2 := hid (KV2.out.below (below_alloc y2 (.cells (repV r1).toArray 30)))
                have KS2 := hid (KR2.out.below (below_alloc y2 (.cells (repV r1).toArray 30)))
                rw [hz2]
                generalize (y2.alloc (.cells (repV r1).toArray 30)) = x2 at Nx2 Kx2 KW2 KS2 ⊢
                clear hz2
                have HN2 := hid (lnext_calls Nx2.out.1 n1 Hn1.out (by have := n1b; omega))
                have a0 := Kx2.out.get 0 rfl
                have b0 := KS2.out.get 0 rfl
                have a1 := Kx2.out.get 1 rfl
                have b1 := KS2.out.get 1 rfl
                have a2 := Kx2.out.get 2 rfl
                have b2 := KS2.out.get 2 rfl
                have a3 := Kx2.out.get 3 rfl
                have b3 := KS2.out.get 3 rfl
                have a4 := Kx2.out.get 4 rfl
                have b4 := KS2.out.get 4 rfl
                have a5 := Kx2.out.get 5 rfl
                have b5 := KS2.out.get 5 rfl
                go_wp2_with (go_at_call 19; go_loud (refine HN2.out.mono ?_; rintro e u9 ⟨rfl, rfl⟩))
                go_meet
                have R : OnceMid w T b m t1 S (64 * k) z o x2 := ⟨Nx2.out.mono (by simp) (Nat.le_refl _), KW2.out⟩
                first | exact R | ((repeat apply Exists.intro); refine ⟨R, ?_⟩; and_intros <;> rfl)
            case rest =>
              clear Nx1 Kx1 KW HN1 HAG HG KV O1
              obtain ⟨hM, hK⟩ := hcut
              have OM := hid hM
              have KM := hid hK
              clear hM hK
              have c0 := KM.out.get 0 rfl
              have c7 := KM.out.get 7 rfl
              have hdd : (o.dd : Int) ≤ 255 := by have := Ho.out.dd; omega
              go_upto_if 101 with fail
              go_cut [] from 99 to 106 (fun w' => OnceEnd w T b m n1 S (64 * k) w')
              case first =>
                by_cases hd4 : o.dd = 4
                · have hd4' : (o.dd : Int) = 4 := by omega
                  have HF := hid (lsfin_calls OM.out.1 o.q.job Ho.out.q.job)
                  have HFS := hid (HI1.out.step OM.out.1.ok (StepT.finish OM.out.1.ok o.q.job))
                  clear hd4
                  go_wp2_with (go_at_call 14; go_loud (refine HF.out.mono ?_; intro e y3 hc; have hw := OM.out.call hc; obtain ⟨rfl, _⟩ := hc; have O3 := hid hw.1; clear hw))
                  go_meet
                  have R : OnceEnd w T b m n1 S (64 * k) y3 := ⟨_, O3.out.mono (by simp) (Nat.le_refl _), HFS.out, by rw [finish_spent]; exact Hn1.out⟩
                  first | exact R | ((repeat apply Exists.intro); refine ⟨R, ?_⟩; and_intros <;> rfl)
                · have hd4' : ¬ ((o.dd : Int) = 4) := by omega
                  clear hd4
                  go_wp2_with fail
                  go_meet
                  have R : OnceEnd w T b m n1 S (64 * k) wc := ⟨_, OM.out.mono (by simp) (Nat.le_refl _), HI1.out, Hn1.out⟩
                  first | exact R | ((repeat apply Exists.intro); refine ⟨R, ?_⟩; and_intros <;> rfl)
              case rest =>
                clear c0 c7 KM OM HI1 HI
                obtain ⟨t2, hM, hI2, hn2⟩ := hcut
                have O3 := hid hM
                have HI2 := hid hI2
                have Hn2 := hid hn2
                clear hM hI2 hn2
                have HOv := hid (lover_calls O3.out.1)
                have few := hid O3.out.1.ok.few
                have fo : (t2.over.length : Int) ≤ 64 := by have := few.out.2; omega
                have fa : (t2.active.length : Int) ≤ 64 := by have := few.out.1; omega
                obtain ⟨B, hB⟩ : ∃ B, wc.heap.size = B := ⟨_, rfl⟩
                have HmB := hid (show m < B from by rw [← hB]; obtain ⟨_, _, nn, D, _, h4, _⟩ := O3.out; exact h4.lt)
                rw [hB] at HOv
                have HBe := hid hB
                clear hB
                go_wp2_with (go_at_call 16; go_loud (refine HOv.out.mono ?_; rintro e w5 ⟨av, cv, rfl, hr, hb⟩; have O5 := hid (O3.out.below (HBe.out ▸ hb)); have R5 := hid hr; clear hr hb))
                clear HOv O3
                go_loopw [110] (fun iv wr => OvRel w T b m t2 (64 * k) B (.slice av t2.over.length cv) iv wr) (fun iv _ => t2.over.length - (intOf iv).toNat)
                case atStart => exact ⟨0, S, rfl, Nat.zero_le _, HI2.out, O5.out, R5.out⟩
                case round =>
                  clear O5 R5 HI2
                  obtain ⟨k2, S2, rfl, hk2, hi2, hO2, hR2⟩ := hrel
                  have O6 := hid hO2
                  have HI3 := hid hi2
                  have R6 := hid hR2
                  clear hO2 hi2 hR2
                  by_cases hk2l : k2 < t2.over.length
                  · have hk2l' : (k2 : Int) < (t2.over.length : Int) := by omega
                    obtain ⟨a', n', cap', hv', _, _, hcs⟩ := R6.out.cs
                    obtain ⟨rfl, rfl, rfl⟩ : av = a' ∧ t2.over.length = n' ∧ cv = cap' := by simpa using hv'
                    obtain ⟨bj, offj, rfl, hc⟩ := cs_row jobV_length hcs hk2l (by decide)
                    obtain ⟨j, hj⟩ : ∃ j, t2.over[k2] = j := ⟨_, rfl⟩
                    have hjm : j ∈ t2.over := hj ▸ List.getElem_mem hk2l
                    rw [hj] at hc
                    have HR := hid (show wr.rangeAt bj (offj + k2 * 6) (jobV j) from hc)
                    have HAdd := hid (HI3.out.add O6.out.1.ok hjm)
                    have hid1 : j.id < 4294967296 := by have := (O6.out.1.ok.oids j hjm).2; have := O6.out.1.ok.spent; omega
                    have HK := hid (keyOf32 hid1)
                    clear hc hcs hv' hj hjm hid1
                    go_upto_region 23 with (first | (refine wpList_load_row6 (o := ⟨some 113, _, _, _, _, _⟩) 37 (.tmp 112) rfl rfl bj (offj + k2 * 6) (jobV j) rfl HR.out row_job size_job ?_) | (refine wpListQ_alloc (o := ⟨some 16, _, _, _, _, _⟩) 37 rfl rfl zjob 6 info_job ?_) | (refine wpListQ_store_new (o := ⟨none, _, 0, _, _, _⟩) rfl 37 (.tmp 16) (.tmp 113) rfl zjob (jobV j).toArray rfl rfl size_job rfl (all_oneCell_toArray (jobV_one _)) ?_))
                    obtain ⟨zj, hzj⟩ : ∃ z, wr.heap.size = z := ⟨_, rfl⟩
                    have O7 := hid (show OW w (wr.alloc (.cells (jobV j).toArray 37)) T b m t2 S2 (64 * k + k2) [] from (O6.out.mk1 _).mono (by simp) (Nat.le_refl _))
                    have R7 := hid (R6.out.below (below_alloc wr (.cells (jobV j).toArray 37)))
                    have K7 := hid (show Blk (wr.alloc (.cells (jobV j).toArray 37)) zj (jobV j) 37 from by rw [← hzj]; exact blk_alloc wr (jobV j) 37)
                    rw [hzj]
                    generalize (wr.alloc (.cells (jobV j).toArray 37)) = w7 at O7 R7 K7 ⊢
                    clear hzj HR O6 R6
                    have c0 := K7.out.get 0 rfl
                    obtain ⟨hL7, hm7, nn, D, hnn, hD7, hS7⟩ := O7.out
                    have HL7 := hid hL7
                    have HD7 := hid hD7
                    have HS7 := hid hS7
                    have Hm7 := hid hm7
                    have Hnn := hid hnn
                    have hnm := hid (show nn < maxLen from by unfold maxLen; omega)
                    clear hL7 hD7 hS7 hm7 hnn O7
                    go_wp2_with (at_mapUpdate; go_must (refine wpList_mapUpdate_in _ rfl _ _ _ 53 rfl 28 4 keyed32 Tryd.underlying53 boolR m _ D rfl HD7.out hnm.out (.int .u32 (j.id : Int)) (.bool true) (idK j.id) rfl rfl HK.out (.lit (.bool true)) [] (boolR_mk true) ?_; intro w9 hown9 hturn9))
                    have C9 : Chg [m] w7 w9 := by simpa using chg_grown hturn9.grown
                    have R : OvRel w T b m t2 (64 * k) B (.slice (some ⟨bj, offj, none⟩) t2.over.length cv) (.int .i64 ((k2 : Int) + 1)) w9 :=
                      ⟨k2 + 1, _, by simp, hk2l, HAdd.out, OW.put HL7.out Hm7.out HS7.out (by have := Hnn.out; omega) hown9 C9, R7.out.chg C9 (fun q hq hm => by have h1 := (R7.out.ownBlock q hq).1; have h2 := HmB.out; rw [List.mem_singleton] at hm; omega)⟩
                    refine ⟨?_, ?_⟩
                    · first | exact R | ((repeat apply Exists.intro); refine ⟨R, ?_⟩; and_intros <;> rfl)
                    · simp [intOf]
                      omega
                  · have hk2l' : ¬ ((k2 : Int) < (t2.over.length : Int)) := by omega
                    clear hk2l
                    have HAc := hid (lactive_calls O6.out.1)
                    obtain ⟨B2, hB2⟩ : ∃ B2, wr.heap.size = B2 := ⟨_, rfl⟩
                    rw [hB2] at HAc
                    have HBe2 := hid hB2
                    clear R6
                    go_wp2_with (go_at_call 17; go_loud (refine HAc.out.mono ?_; rintro e w8 ⟨aa, ca, rfl, hr, hb⟩; have O8 := hid (O6.out.below (HBe2.out ▸ hb)); have R8 := hid hr; clear hr hb))
                    clear HAc O6 hB2
                    go_loopw [121] (fun iv wr => AcRel w T b m t2 S2 (64 * k + k2) B2 (.slice aa t2.active.length ca) iv wr) (fun iv _ => t2.active.length - (intOf iv).toNat)
                    case atStart => exact ⟨0, rfl, Nat.zero_le _, O8.out, R8.out⟩
                    case round =>
                      clear O8 R8
                      obtain ⟨k3, rfl, hk3, hO3, hR3⟩ := hrel
                      have O9 := hid hO3
                      have R9 := hid hR3
                      clear hO3 hR3
                      by_cases hk3l : k3 < t2.active.length
                      · have hk3l' : (k3 : Int) < (t2.active.length : Int) := by omega
                        obtain ⟨a', n', cap', hv', _, _, hcs⟩ := R9.out.cs
                        obtain ⟨rfl, rfl, rfl⟩ : aa = a' ∧ t2.active.length = n' ∧ ca = cap' := by simpa using hv'
                        obtain ⟨bj, offj, rfl, hc⟩ := cs_row jobV_length hcs hk3l (by decide)
                        obtain ⟨j, hj⟩ : ∃ j, t2.active[k3] = j := ⟨_, rfl⟩
                        have hjm : j ∈ t2.active := hj ▸ List.getElem_mem hk3l
                        rw [hj] at hc
                        have HR := hid (show wr.rangeAt bj (offj + k3 * 6) (jobV j) from hc)
                        have hjs := (O9.out.1.ok.ids j hjm).2
                        have hid1 : j.id < 4294967296 := by have := O9.out.1.ok.spent; omega
                        have HK := hid (keyOf32 hid1)
                        have HSF := hid (show S2 j.id = false from by
                          cases hs : S2 j.id
                          · rfl
                          · exact absurd rfl ((HI3.out.set j.id hs).2 j hjm))
                        have jn : ¬ ((n1 : Int) ≤ (j.id : Int)) := by have := Hn2.out; omega
                        clear hc hcs hv' hj hjm hid1 hjs
                        go_upto_region 28 with (first | (refine wpList_load_row6 (o := ⟨some 124, _, _, _, _, _⟩) 37 (.tmp 123) rfl rfl bj (offj + k3 * 6) (jobV j) rfl HR.out row_job size_job ?_) | (refine wpListQ_alloc (o := ⟨some 18, _, _, _, _, _⟩) 37 rfl rfl zjob 6 info_job ?_) | (refine wpListQ_store_new (o := ⟨none, _, 0, _, _, _⟩) rfl 37 (.tmp 18) (.tmp 124) rfl zjob (jobV j).toArray rfl rfl size_job rfl (all_oneCell_toArray (jobV_one _)) ?_))
                        obtain ⟨zj, hzj⟩ : ∃ z, wr.heap.size = z := ⟨_, rfl⟩
                        have Oa := hid (show OW w (wr.alloc (.cells (jobV j).toArray 37)) T b m t2 S2 (64 * k + k2) [] from (O9.out.mk1 _).mono (by simp) (Nat.le_refl _))
                        have Ra := hid (R9.out.below (below_alloc wr (.cells (jobV j).toArray 37)))
                        have Ka := hid (show Blk (wr.alloc (.cells (jobV j).toArray 37)) zj (jobV j) 37 from by rw [← hzj]; exact blk_alloc wr (jobV j) 37)
                        rw [hzj]
                        generalize (wr.alloc (.cells (jobV j).toArray 37)) = wa at Oa Ra Ka ⊢
                        clear hzj HR O9 R9
                        have c0 := Ka.out.get 0 rfl
                        obtain ⟨_, _, nn, D, _, hDa, hSa⟩ := Oa.out
                        have HDa := hid hDa
                        have HAt := hid (show D.atKey (idK j.id) (.lit (.bool false)) = .lit (.bool false) from by rw [hSa.at', HSF.out])
                        clear hDa hSa
                        go_wp2_with (at_lookup; go_must (refine wpList_lookup_R _ rfl _ _ 53 rfl 28 4 keyed32 Tryd.underlying53 boolR (zeroBool _) (.lit (.bool false)) [] (boolR_mk false) m _ D rfl HDa.out (.int .u32 (j.id : Int)) (idK j.id) rfl HK.out ?_; intro v ps hv; rw [HAt.out] at hv; obtain rfl := boolR_inv hv))
                        have R : AcRel w T b m t2 S2 (64 * k + k2) B2 (.slice (some ⟨bj, offj, none⟩) t2.active.length ca) (.int .i64 ((k3 : Int) + 1)) wa := ⟨k3 + 1, by simp, hk3l, Oa.out, Ra.out⟩
                        refine ⟨?_, ?_⟩
                        · first | exact R | ((repeat apply Exists.intro); refine ⟨R, ?_⟩; and_intros <;> rfl)
                        · simp [intOf]
                          omega
                      · have hk3l' : ¬ ((k3 : Int) < (t2.active.length : Int)) := by omega
                        clear hk3l
                        go_wp2_with fail
                        have hkl := HKL.out
                        have R : OnceRel w T b m l0.length (.int .u32 (n1 : Int)) (.int .i64 ((k : Int) + 1)) wr := ⟨k + 1, n1, t2, S2, by simp, rfl, Hn2.out, hkl, by omega, by have h1 := Hn2.out; have h2 := Hn1.out; have h3 := HSP.out; have h4 := Hts.out; omega, HI3.out, O9.out.mono (by simp) (by omega)⟩
                        refine ⟨?_, ?_⟩
                        · first | exact R | ((repeat apply Exists.intro); refine ⟨R, ?_⟩; and_intros <;> rfl)
                        · simp [intOf]
                          omega
      · have hk6' : (60 : Int) ≤ (k : Int) := by omega
        clear hk6
        go_wp2_with fail
        go_ret
        exact ⟨rfl, OQ.out.1.1⟩
    · have hkl' : ¬ ((k : Int) < (l0.length : Int)) := by omega
      clear hkl
      go_wp2_with fail
      go_ret
      exact ⟨rfl, O.out.1.1⟩

end Go.Proofs.YtombndhjoaaaiaaDoor
