/- JobsFull: so many jobs and no more. -/
import Derived.Test.YtombndhjoaaaiaaDoorJobJ
namespace Go.Proofs.YtombndhjoaaaiaaDoor
open Go.RowKit Go.Quad _root_.Quad _root_.Quad.Ink

theorem nat_of_u8 {n : Int} (h : (Lit.int .u8 n).wf = true) : ∃ k : Nat, n = k ∧ k < 256 := by
  simp [Lit.wf, IntKind.min, IntKind.max, IntKind.signed, IntKind.bits] at h
  exact ⟨n.toNat, by omega, by omega⟩
def JfA (w : World) (T b : Nat) (iv : Value) (wr : World) : Prop := ∃ i : Nat, iv = .int .i64 (i : Int) ∧ i ≤ 64 ∧ LT w wr T b (tJ 0 i) []
def JfB (w : World) (T b K : Nat) (iv : Value) (wr : World) : Prop := ∃ i : Nat, iv = .int .i64 (i : Int) ∧ i ≤ K ∧ LT w wr T b (tJ i 64) []
theorem lfin_calls {w W : World} {T b : Nat} {t : TbD} {G : List Nat} (h : LT w W T b t G) (id : Nat) (hI : id < 4294967296) :
    Calls Tryd.prog 14 #[.pointer (some ⟨T, 0, none⟩), .int .u32 (id : Int)] W (LTo w W T b (finishT t id).1 G (.int .i64 (finishT t id).2)) := h.to fun ov hT => finish_calls W w.heap.size T b ov t id hT hI

set_option maxRecDepth 100000 in
set_option maxHeartbeats 4000000 in
theorem jobsFull_walk (x : Int) (w : World) (hx : (Lit.int .u8 x).wf = true) (hq : Laid w) :
    Calls Tryd.prog 4 #[.int .u8 x] w fun e w' => e = .returned (.bool true) ∧ Below w.heap.size w w' := by
  obtain ⟨n, rfl, hn⟩ := nat_of_u8 hx
  obtain ⟨K, hK⟩ : ∃ K : Nat, n % 80 = K := ⟨_, rfl⟩
  have hKI : (n : Int) % 80 = (K : Int) := by omega
  have HKl := hid (show K < 80 from by omega)
  have HL := hid hq
  have hA := hid (jawake_calls w hq)
  clear hq hK hx
  go_enter Tryd.func4, Tryd.ntmps4
  go_upto_region 3 with (go_at_call 9; go_loud (refine hA.out.mono ?_; rintro e w1 ⟨rfl, hb⟩; have hN := hid (lnew_calls w w1 hb); clear hb))
  go_upto_region 4 with (go_at_call 10; go_loud (refine hN.out.mono ?_; rintro e w2 ⟨T, b, rfl, hl0⟩; have L0 := hid hl0; clear hl0))
  clear hA hN
  go_wp2_with fail
  go_loopw [22] (fun iv wr => JfA w T b iv wr) (fun iv _ => 64 - (intOf iv).toNat)
  case atStart => exact ⟨0, rfl, Nat.zero_le _, L0.out⟩
  case round =>
    obtain ⟨i, rfl, hi, hl⟩ := hrel
    have L := hid hl
    clear hl L0
    by_cases hi64 : i < 64
    · have hi' : (i : Int) < 64 := by omega
      have hdo := do_sub 0 i hi64 (by omega)
      simp only [Nat.zero_add] at hdo
      have HDO := hid hdo
      have s1 := subreq_calls wr (i + 1) (by omega)
      rw [show ((i + 1 : Nat) : Int) = (i : Int) + 1 from by omega] at s1
      have S1 := hid s1
      have HI := hid hi64
      clear hdo s1 hi64 hi
      go_upto_region 8 with (first | (go_at_call 15; go_loud (refine S1.out.mono ?_; rintro e u1 ⟨rfl, hb⟩; have Lu := hid (L.out.below hb); have D1 := hid (ldo_calls Lu.out (subQ (i + 1)) (subQ_ok (i + 1) (by have := HI.out; omega)) HL.out); rw [HDO.out] at D1; clear hb)) | (go_at_call 11; go_loud (refine D1.out.mono ?_; rintro e v1 ⟨rfl, hl, _⟩; have M1 := hid hl; clear hl; simp only [doRes])) | (refine wpListQ_alloc (o := ⟨some 6, _, _, _, _, _⟩) 30 rfl rfl zrep 6 info_rep ?_) | (refine wpListQ_store_new (o := ⟨none, _, 0, _, _, _⟩) rfl 30 (.tmp 6) (.tmp 32) rfl zrep (repV (⟨0, i + 1, 0, i + 1, 0, 0⟩ : RepD)).toArray rfl rfl size_rep rfl (all_oneCell_toArray (repV_one _)) ?_))
      obtain ⟨z1, hz1⟩ : ∃ z, v1.heap.size = z := ⟨_, rfl⟩
      have N1 := hid (show LT w (v1.alloc (.cells (repV (⟨0, i + 1, 0, i + 1, 0, 0⟩ : RepD)).toArray 30)) T b (tJ 0 (i + 1)) [] from (M1.out.mk1 _).drop)
      have K1 := hid (show Blk (v1.alloc (.cells (repV (⟨0, i + 1, 0, i + 1, 0, 0⟩ : RepD)).toArray 30)) z1 (repV (⟨0, i + 1, 0, i + 1, 0, 0⟩ : RepD)) 30 from by rw [← hz1]; exact blk_alloc v1 (repV (⟨0, i + 1, 0, i + 1, 0, 0⟩ : RepD)) 30)
      rw [hz1]
      generalize (v1.alloc (.cells (repV (⟨0, i + 1, 0, i + 1, 0, 0⟩ : RepD)).toArray 30)) = x1 at N1 K1 ⊢
      have c2 := K1.out.get 2 rfl
      clear hz1 M1
      go_wp2_with fail
      have R : JfA w T b (.int .i64 ((i : Int) + 1)) x1 := ⟨i + 1, by rw [show ((i + 1 : Nat) : Int) = (i : Int) + 1 from by omega], by have := HI.out; omega, N1.out⟩
      refine ⟨?_, ?_⟩
      · first | exact R | ((repeat apply Exists.intro); refine ⟨R, ?_⟩; and_intros <;> rfl)
      · have := HI.out
        simp [intOf]
        omega
    · obtain rfl : i = 64 := by omega
      have HDO := hid do_full
      have s1 := subreq_calls wr 65 (by omega)
      have S1 := hid (show Calls Tryd.prog 15 #[.int .u32 65] wr fun e w' => e = .returned (.agg (reqV (subQ 65)).toArray) ∧ Below wr.heap.size wr w' from s1)
      clear s1 hi hi64
      go_upto_region 12 with (first | (go_at_call 15; go_loud (refine S1.out.mono ?_; rintro e u1 ⟨rfl, hb⟩; have Lu := hid (L.out.below hb); have D1 := hid (ldo_calls Lu.out (subQ 65) (subQ_ok 65 (by omega)) HL.out); rw [HDO.out] at D1; clear hb)) | (go_at_call 11; go_loud (refine D1.out.mono ?_; rintro e v1 ⟨rfl, hl, _⟩; have M1 := hid hl; clear hl; simp only [doRes])) | (refine wpListQ_alloc (o := ⟨some 8, _, _, _, _, _⟩) 30 rfl rfl zrep 6 info_rep ?_) | (refine wpListQ_store_new (o := ⟨none, _, 0, _, _, _⟩) rfl 30 (.tmp 8) (.tmp 42) rfl zrep (repV (⟨0, 65, 8, 0, 0, 0⟩ : RepD)).toArray rfl rfl size_rep rfl (all_oneCell_toArray (repV_one _)) ?_))
      obtain ⟨z1, hz1⟩ : ∃ z, v1.heap.size = z := ⟨_, rfl⟩
      have N1 := hid (show LT w (v1.alloc (.cells (repV (⟨0, 65, 8, 0, 0, 0⟩ : RepD)).toArray 30)) T b (tJ 0 64) [] from (M1.out.mk1 _).drop)
      have K1 := hid (show Blk (v1.alloc (.cells (repV (⟨0, 65, 8, 0, 0, 0⟩ : RepD)).toArray 30)) z1 (repV (⟨0, 65, 8, 0, 0, 0⟩ : RepD)) 30 from by rw [← hz1]; exact blk_alloc v1 (repV (⟨0, 65, 8, 0, 0, 0⟩ : RepD)) 30)
      rw [hz1]
      generalize (v1.alloc (.cells (repV (⟨0, 65, 8, 0, 0, 0⟩ : RepD)).toArray 30)) = x1 at N1 K1 ⊢
      have c2 := K1.out.get 2 rfl
      clear hz1 M1
      go_upto_region 15 with fail
      rw [hKI]
      clear hKI c2
      go_wp2_with fail
      go_loopw [51] (fun iv wr => JfB w T b K iv wr) (fun iv _ => K - (intOf iv).toNat)
      case atStart => exact ⟨0, rfl, Nat.zero_le _, N1.out⟩
      case round =>
        clear N1 K1 L HDO S1
        obtain ⟨i, rfl, hi, hl⟩ := hrel
        have L := hid hl
        clear hl
        have hK80 := HKl.out
        by_cases hiK : i < K
        · have hi' : (i : Int) < (K : Int) := by omega
          have hi'' : (i : Int) < 80 := by omega
          have hdo := do_sub (i + 1) 63 (by omega) (by omega)
          rw [show i + 1 + 63 + 1 = i + 65 from by omega] at hdo
          have HDO := hid hdo
          have fi := lfin_calls L.out (i + 1) (by omega)
          rw [finish_first i 63, show ((i + 1 : Nat) : Int) = (i : Int) + 1 from by omega] at fi
          have FI := hid fi
          have HI := hid hiK
          clear hdo fi hiK hi hK80
          have hsub : ∀ W : World, Calls Tryd.prog 15 #[.int .u32 (65 + (i : Int))] W fun e w' => e = .returned (.agg (reqV (subQ (i + 65))).toArray) ∧ Below W.heap.size W w' := fun W => by
            have s1 := subreq_calls W (i + 65) (by have := HI.out; have := HKl.out; omega)
            rw [show ((i + 65 : Nat) : Int) = 65 + (i : Int) from by omega] at s1
            exact s1
          have S1 := hid hsub
          clear hsub
          go_upto_region 20 with (go_at_call 14; go_loud (refine FI.out.mono ?_; rintro e wf ⟨rfl, hl, _⟩; have Lf := hid hl; clear hl))
          go_upto_region 21 with (first | (go_at_call 15; go_loud (refine (S1.out _).mono ?_; rintro e u1 ⟨rfl, hb⟩; have Lu := hid (Lf.out.below hb); have D1 := hid (ldo_calls Lu.out (subQ (i + 65)) (subQ_ok (i + 65) (by have := HI.out; have := HKl.out; omega)) HL.out); rw [HDO.out] at D1; clear hb)) | (go_at_call 11; go_loud (refine D1.out.mono ?_; rintro e v1 ⟨rfl, hl, _⟩; have M1 := hid hl; clear hl; simp only [doRes])) | (refine wpListQ_alloc (o := ⟨some 12, _, _, _, _, _⟩) 30 rfl rfl zrep 6 info_rep ?_) | (refine wpListQ_store_new (o := ⟨none, _, 0, _, _, _⟩) rfl 30 (.tmp 12) (.tmp 67) rfl zrep (repV (⟨0, i + 65, 0, i + 65, 0, 0⟩ : RepD)).toArray rfl rfl size_rep rfl (all_oneCell_toArray (repV_one _)) ?_))
          obtain ⟨z1, hz1⟩ : ∃ z, v1.heap.size = z := ⟨_, rfl⟩
          have N1 := hid (show LT w (v1.alloc (.cells (repV (⟨0, i + 65, 0, i + 65, 0, 0⟩ : RepD)).toArray 30)) T b (tJ (i + 1) 64) [] from (M1.out.mk1 _).drop)
          have K1 := hid (show Blk (v1.alloc (.cells (repV (⟨0, i + 65, 0, i + 65, 0, 0⟩ : RepD)).toArray 30)) z1 (repV (⟨0, i + 65, 0, i + 65, 0, 0⟩ : RepD)) 30 from by rw [← hz1]; exact blk_alloc v1 (repV (⟨0, i + 65, 0, i + 65, 0, 0⟩ : RepD)) 30)
          rw [hz1]
          generalize (v1.alloc (.cells (repV (⟨0, i + 65, 0, i + 65, 0, 0⟩ : RepD)).toArray 30)) = x1 at N1 K1 ⊢
          have c2 := K1.out.get 2 rfl
          clear hz1 M1
          go_wp2_with fail
          have R : JfB w T b K (.int .i64 ((i : Int) + 1)) x1 := ⟨i + 1, by rw [show ((i + 1 : Nat) : Int) = (i : Int) + 1 from by omega], by have := HI.out; omega, N1.out⟩
          refine ⟨?_, ?_⟩
          · first | exact R | ((repeat apply Exists.intro); refine ⟨R, ?_⟩; and_intros <;> rfl)
          · have := HI.out
            simp [intOf]
            omega
        · obtain rfl : i = K := by omega
          clear hi hiK
          obtain ⟨hb0, ov, hT, _⟩ := L.out
          have hj := hid (job_calls wr w.heap.size T b ov (tJ i 64) 1 hT (by omega))
          have HT := hid hT
          have HB := hid hb0
          clear hb0 hT
          have ho := over_calls
          obtain ⟨o, hoe⟩ : ∃ o, jobT (tJ i 64) 1 = o := ⟨_, rfl⟩
          rw [hoe] at hj
          have HO := hid hoe
          obtain ⟨m, hm⟩ : ∃ m, (tJ i 64).over.length = m := ⟨_, rfl⟩
          have hm2 : m = min i 64 := by rw [← hm]; exact over_len i 64
          have HM := hid hm
          have HM2 := hid hm2
          clear hoe hm hm2 L ho
          have HI := HKl.out
          go_upto_region 25 with (first | (go_at_call 13; go_loud (refine hj.out.mono ?_; rintro e u1 ⟨rfl, hb⟩; have Bu := hid hb; clear hb; simp only [jobRes])) | (refine wpListQ_alloc (o := ⟨some 14, _, _, _, _, _⟩) 37 rfl rfl zjob 6 info_job ?_) | (refine wpListQ_store_new (o := ⟨none, _, 0, _, _, _⟩) rfl 37 (.tmp 14) (.tmp 76) rfl zjob (jobV (o.getD jobZ)).toArray rfl rfl size_job rfl (all_oneCell_toArray (jobV_one _)) ?_))
          have hTx := HT.out.below (Bu.out.trans ((below_alloc u1 (.cells (jobV (o.getD jobZ)).toArray 37)).mono Bu.out.size))
          have HV := hid (over_calls _ w.heap.size T b ov (tJ i 64) hTx)
          have BV := hid ((HB.out.trans (Bu.out.mono HB.out.size)).trans ((below_alloc u1 (.cells (jobV (o.getD jobZ)).toArray 37)).mono (HB.out.trans (Bu.out.mono HB.out.size)).size))
          rw [HM.out] at HV
          clear hTx
          generalize (u1.alloc (.cells (jobV (o.getD jobZ)).toArray 37)) = x1 at HV BV ⊢
          have hmI : min (i : Int) 64 = (m : Int) := by have := HM2.out; omega
          have hm64 : (m : Int) ≤ 64 := by have := HM2.out; omega
          by_cases h0 : i = 0
          · have e0 : ((i : Int) == 0) = true := by simp; omega
            clear h0
            go_wp2_with (go_at_call 16; go_loud (refine HV.out.mono ?_; rintro e w8 ⟨v8, rfl, ho8, hb8⟩; obtain ⟨a8, c8, rfl⟩ := row_slice ho8; have B8 := hid (BV.out.trans (hb8.mono BV.out.size)); clear ho8 hb8))
            all_goals go_ret
            all_goals exact ⟨by first | rfl | (simp; done) | (simp; omega), B8.out⟩
          have e0 : ((i : Int) == 0) = false := by simp; omega
          have HS := hid (known_first i (by omega))
          rw [HO.out] at HS
          by_cases h6 : i ≤ 64
          · have e1 : o.isSome = true := by rw [HS.out]; simpa using h6
            have e2 : (i : Int) ≤ 64 := by omega
            rw [e1]
            clear h0 h6 e1
            go_wp2_with (go_at_call 16; go_loud (refine HV.out.mono ?_; rintro e w8 ⟨v8, rfl, ho8, hb8⟩; obtain ⟨a8, c8, rfl⟩ := row_slice ho8; have B8 := hid (BV.out.trans (hb8.mono BV.out.size)); clear ho8 hb8))
            all_goals go_ret
            all_goals exact ⟨by first | rfl | (simp; done) | (simp; omega), B8.out⟩
          · have e1 : o.isSome = false := by rw [HS.out]; simpa using h6
            have e2 : ¬ ((i : Int) ≤ 64) := by omega
            rw [e1]
            clear h0 h6 e1
            go_wp2_with (go_at_call 16; go_loud (refine HV.out.mono ?_; rintro e w8 ⟨v8, rfl, ho8, hb8⟩; obtain ⟨a8, c8, rfl⟩ := row_slice ho8; have B8 := hid (BV.out.trans (hb8.mono BV.out.size)); clear ho8 hb8))
            all_goals go_ret
            all_goals exact ⟨by first | rfl | (simp; done) | (simp; omega), B8.out⟩

end Go.Proofs.YtombndhjoaaaiaaDoor
