/- JobsCredit: a job's credit. -/
import Derived.Test.YtombndhjoaaaiaaDoorJobJ
namespace Go.Proofs.YtombndhjoaaaiaaDoor
open Go.RowKit Go.Quad _root_.Quad _root_.Quad.Ink

def inI (x : Int) : List Value := [.int .i64 x]
theorem inI_length (x : Int) : (inI x).length = 1 := rfl
theorem ints_open {w : World} {v : Value} (h : RV Tryd.prog w 22 v) :
    ∃ (a : Option Addr) (cap : Nat) (l : List Int), v = .slice a l.length cap ∧ (∀ r ∈ l, -9223372036854775808 ≤ r ∧ r ≤ 9223372036854775807) ∧ CS w a cap 1 (l.flatMap inI) ∧ l.length ≤ cap := by
  obtain ⟨a, cap, E, rfl, hE, hl, hc⟩ := h.slice Tryd.underlying22 1 (by kernel_rfl) (by decide)
  have key : ∀ E : List (List Value), (∀ x ∈ E, x.length = 1 ∧ RC Tryd.prog w 3 x) → ∃ l : List Int, l.length = E.length ∧ E.flatten = l.flatMap inI ∧ ∀ r ∈ l, -9223372036854775808 ≤ r ∧ r ≤ 9223372036854775807 := by
    intro E
    induction E with
    | nil => intro _; exact ⟨[], rfl, rfl, by simp⟩
    | cons x E ih =>
      intro h
      obtain ⟨l, h1, h2, h3⟩ := ih fun y hy => h y (List.mem_cons_of_mem _ hy)
      obtain ⟨o, ho, hok⟩ := (h x (List.mem_cons_self ..)).2.int Tryd.underlying3
      exact ⟨o :: l, by simp [h1], by rw [List.flatten_cons, h2, ho, List.flatMap_cons]; rfl, fun q hq => by
        rcases List.mem_cons.1 hq with rfl | hq
        · exact bounds_i64 hok
        · exact h3 q hq⟩
  obtain ⟨l, h1, h2, h3⟩ := key E hE
  rw [h2] at hc
  rw [← h1] at hl ⊢
  exact ⟨a, cap, l, rfl, h3, hc, hl⟩

theorem natC_of_u8 {n : Int} (h : (Lit.int .u8 n).wf = true) : ∃ k : Nat, n = k ∧ k < 256 := by
  simp [Lit.wf, IntKind.min, IntKind.max, IntKind.signed, IntKind.bits] at h
  exact ⟨n.toNat, by omega, by omega⟩

def CrRel (w : World) (T b : Nat) (M : Int) (len : Nat) (bv iv : Value) (wr : World) : Prop := ∃ (k : Nat) (best : Int), bv = .int .i64 best ∧ iv = .int .i64 (k : Int) ∧ 0 ≤ best ∧ best ≤ M ∧ k ≤ 30 ∧ k ≤ len ∧ LT w wr T b (tC M best) []
theorem lfinc_calls {w W : World} {T b : Nat} {t : TbD} {G : List Nat} (h : LT w W T b t G) :
    Calls Tryd.prog 14 #[.pointer (some ⟨T, 0, none⟩), .int .u32 1] W (LTo w W T b (finishT t 1).1 G (.int .i64 (finishT t 1).2)) := h.to fun ov hT => finish_calls W w.heap.size T b ov t 1 hT (by omega)
theorem lcre_calls {w W : World} {T b : Nat} {t : TbD} {G : List Nat} (h : LT w W T b t G) (c : Int) (hc : -9223372036854775808 ≤ c ∧ c ≤ 9223372036854775807) :
    Calls Tryd.prog 12 #[.pointer (some ⟨T, 0, none⟩), .int .u32 1, .int .i64 c] W (LTo w W T b (creditT t 1 c).1 G (.int .i64 (creditT t 1 c).2)) := h.to fun ov hT => credit_calls W w.heap.size T b ov t 1 c hT (by omega) hc
theorem ljob_calls {w W : World} {T b : Nat} {t : TbD} {G : List Nat} (h : LT w W T b t G) :
    Calls Tryd.prog 13 #[.pointer (some ⟨T, 0, none⟩), .int .u32 1] W fun e W' => e = .returned (jobRes (jobT t 1)) ∧ LT w W' T b t G := by
  obtain ⟨h1, ov, h2, h3⟩ := h
  refine (job_calls W w.heap.size T b ov t 1 h2 (by omega)).mono ?_
  rintro e W' ⟨rfl, hb⟩
  exact ⟨rfl, LT.below ⟨h1, ov, h2, h3⟩ hb⟩
theorem crQ_ok {M : Int} (h : 1 ≤ M ∧ M ≤ 10000) : (crQ M).Ok := ⟨by show 0 < 256; omega, by show 1 < 4294967296; omega, by show 1 < 256; omega, by show 0 < 256; omega, by show (-9223372036854775808 : Int) ≤ 1 ∧ (1 : Int) ≤ 9223372036854775807; omega, by show (-9223372036854775808 : Int) ≤ M ∧ M ≤ 9223372036854775807; omega, by show 0 < 4294967296; omega⟩
theorem cnQ_ok : cnQ.Ok := ⟨by decide, by decide, by decide, by decide, by decide, by decide, by decide⟩
theorem cre_tE (M best c : Int) (st s : Nat) (h : 4 ≤ st) : creditT (tE M best st s) 1 c = (tE M best st s, 10) := by
  unfold creditT
  rw [get_tE M best st s h, if_pos (by simp)]
theorem fin_tE (M best : Int) (st s : Nat) (h : 4 ≤ st) : finishT (tE M best st s) 1 = (tE M best st s, 10) := by
  unfold finishT
  rw [get_tE M best st s h, if_pos (by simp)]

set_option maxRecDepth 100000 in
set_option maxHeartbeats 8000000 in
theorem jobsCredit_walk (a0 : Int) (v1 : Value) (a2 : Bool) (w : World) (h0 : (Lit.int .u8 a0).wf = true) (h1 : RV Tryd.prog w 22 v1) (hq : Laid w) :
    Calls Tryd.prog 3 #[.int .u8 a0, v1, .bool a2] w fun e w' => e = .returned (.bool true) ∧ Below w.heap.size w w' := by
  obtain ⟨ad, cp, l0, rfl, hok0, hcs0, hlc0⟩ := ints_open h1
  obtain ⟨n, rfl, hn⟩ := natC_of_u8 h0
  obtain ⟨M, hM⟩ : ∃ M : Int, 1 + (n : Int) = M := ⟨_, rfl⟩
  have HM := hid hM
  have hM1 : 1 ≤ M := by omega
  have hM2 : M ≤ 256 := by omega
  have m0 : (l0.length : Int) ≤ 9223372036854775807 := by have := hcs0.max; unfold maxLen at this; omega
  have Hok := hid hok0
  have Hcs := hid hcs0
  have HL := hid hq
  have hA := hid (jawake_calls w hq)
  clear hM hq h0 h1 hok0 hcs0 hlc0
  go_enter Tryd.func3, Tryd.ntmps3
  go_upto_region 3 with (go_at_call 9; go_loud (refine hA.out.mono ?_; rintro e w1 ⟨rfl, hb⟩; have hN := hid (lnew_calls w w1 hb); clear hb))
  go_upto_region 5 with (go_at_call 10; go_loud (refine hN.out.mono ?_; rintro e w2 ⟨T, b, rfl, hl0⟩; have L0 := hid hl0; clear hl0))
  clear hA hN
  rw [HM.out]
  have D1 := hid (show Calls Tryd.prog 11 #[.pointer (some ⟨T, 0, none⟩), .agg (reqV (crQ M)).toArray] w2 (LTo w w2 T b (tC M 0) [] (doRes (⟨0, 1, 0, 1, 0, 0⟩, true))) from by
    have := ldo_calls L0.out (crQ M) (crQ_ok ⟨hM1, by omega⟩) HL.out
    rw [← tJ_new, do_cr M ⟨hM1, by omega⟩] at this
    exact this)
  go_upto_region 6 with (go_at_call 11; go_loud (refine D1.out.mono ?_; rintro e w3 ⟨rfl, hl0, _⟩; have L3 := hid hl0; clear hl0))
  clear D1 L0
  go_wp2_with fail
  go_loopw [10, 34] (fun bv iv wr => CrRel w T b M l0.length bv iv wr) (fun _ iv _ => l0.length - (intOf iv).toNat)
  case atStart => exact ⟨0, 0, rfl, rfl, by omega, by omega, Nat.zero_le _, Nat.zero_le _, L3.out⟩
  case round =>
    obtain ⟨k, best, rfl, rfl, hb0, hbM, hk, hkl0, hl⟩ := hrel
    have L := hid hl
    clear hl L3
    by_cases hkl : k < l0.length
    · have hkl' : (k : Int) < (l0.length : Int) := by omega
      have ho := Hok.out _ (List.getElem_mem hkl)
      obtain ⟨bo, off, rfl, hc⟩ := cs_row inI_length Hcs.out hkl (by decide)
      have d0 := cell_later L.out.1 (hc 0 _ rfl)
      clear hc
      generalize l0[k] = c at ho d0
      rw [Nat.add_zero, Nat.mul_one] at d0
      have HCB := hid ho
      have hc1 := ho.1
      have hc2 := ho.2
      by_cases hk30 : k < 30
      · have hk30' : ¬ ((30 : Int) ≤ (k : Int)) := by omega
        go_upto_region 11 with fail
        clear d0 hkl0 hk
        have hbest : 0 ≤ best ∧ best ≤ M := ⟨hb0, hbM⟩
        by_cases q1 : c < 0
        · have CL := hid (show creditT (tC M best) 1 c = (tC M best, 1) from by rw [credit_tC, if_pos (.inl q1)])
          go_upto_region 22 with (first | (go_at_call 12; go_loud (refine (lcre_calls L.out c HCB.out).mono ?_; rintro e u1 ⟨rfl, hl, _⟩; rw [CL.out] at hl ⊢; have Lu := hid hl; clear hl; dsimp only)) | (go_at_call 13; go_loud (refine (ljob_calls Lu.out).mono ?_; rintro e v1 ⟨rfl, hl⟩; rw [job_tC]; have Lj := hid hl; clear hl; simp only [jobRes, Option.getD_some, Option.isSome_some])) | (refine wpListQ_alloc (o := ⟨some 15, _, _, _, _, _⟩) 37 rfl rfl zjob 6 info_job ?_) | (refine wpListQ_store_new (o := ⟨none, _, 0, _, _, _⟩) rfl 37 (.tmp 15) (.tmp 63) rfl zjob (jobV (jc M 0 best)).toArray rfl rfl size_job rfl (all_oneCell_toArray (jobV_one _)) ?_))
          obtain ⟨z, hz⟩ : ∃ z, v1.heap.size = z := ⟨_, rfl⟩
          have N1 := hid (show LT w (v1.alloc (.cells (jobV (jc M 0 best)).toArray 37)) T b (tC M best) [] from (Lj.out.mk1 _).drop)
          have K1 := hid (show Blk (v1.alloc (.cells (jobV (jc M 0 best)).toArray 37)) z (jobV (jc M 0 best)) 37 from by rw [← hz]; exact blk_alloc v1 (jobV (jc M 0 best)) 37)
          rw [hz]
          generalize (v1.alloc (.cells (jobV (jc M 0 best)).toArray 37)) = x1 at N1 K1 ⊢
          clear hz Lj
          have c5 : x1.cell? ⟨z, 5, none⟩ = some (.int .i64 best) := K1.out.get 5 rfl
          have HB := hid hbest
          have HK := hid hk30
          have HKL := hid hkl
          go_wp2_with fail
          have R : CrRel w T b M l0.length (.int .i64 best) (.int .i64 ((k : Int) + 1)) x1 := ⟨k + 1, best, rfl, by rw [show ((k + 1 : Nat) : Int) = (k : Int) + 1 from by omega], HB.out.1, HB.out.2, HK.out, HKL.out, N1.out⟩
          refine ⟨?_, ?_⟩
          · first | exact R | ((repeat apply Exists.intro); refine ⟨R, ?_⟩; and_intros <;> rfl)
          · have := HKL.out
            simp [intOf]
            omega
        by_cases q2 : M < c
        · have CL := hid (show creditT (tC M best) 1 c = (tC M best, 1) from by rw [credit_tC, if_pos (.inr q2)])
          go_upto_region 22 with (first | (go_at_call 12; go_loud (refine (lcre_calls L.out c HCB.out).mono ?_; rintro e u1 ⟨rfl, hl, _⟩; rw [CL.out] at hl ⊢; have Lu := hid hl; clear hl; dsimp only)) | (go_at_call 13; go_loud (refine (ljob_calls Lu.out).mono ?_; rintro e v1 ⟨rfl, hl⟩; rw [job_tC]; have Lj := hid hl; clear hl; simp only [jobRes, Option.getD_some, Option.isSome_some])) | (refine wpListQ_alloc (o := ⟨some 15, _, _, _, _, _⟩) 37 rfl rfl zjob 6 info_job ?_) | (refine wpListQ_store_new (o := ⟨none, _, 0, _, _, _⟩) rfl 37 (.tmp 15) (.tmp 63) rfl zjob (jobV (jc M 0 best)).toArray rfl rfl size_job rfl (all_oneCell_toArray (jobV_one _)) ?_))
          obtain ⟨z, hz⟩ : ∃ z, v1.heap.size = z := ⟨_, rfl⟩
          have N1 := hid (show LT w (v1.alloc (.cells (jobV (jc M 0 best)).toArray 37)) T b (tC M best) [] from (Lj.out.mk1 _).drop)
          have K1 := hid (show Blk (v1.alloc (.cells (jobV (jc M 0 best)).toArray 37)) z (jobV (jc M 0 best)) 37 from by rw [← hz]; exact blk_alloc v1 (jobV (jc M 0 best)) 37)
          rw [hz]
          generalize (v1.alloc (.cells (jobV (jc M 0 best)).toArray 37)) = x1 at N1 K1 ⊢
          clear hz Lj
          have c5 : x1.cell? ⟨z, 5, none⟩ = some (.int .i64 best) := K1.out.get 5 rfl
          have HB := hid hbest
          have HK := hid hk30
          have HKL := hid hkl
          go_wp2_with fail
          have R : CrRel w T b M l0.length (.int .i64 best) (.int .i64 ((k : Int) + 1)) x1 := ⟨k + 1, best, rfl, by rw [show ((k + 1 : Nat) : Int) = (k : Int) + 1 from by omega], HB.out.1, HB.out.2, HK.out, HKL.out, N1.out⟩
          refine ⟨?_, ?_⟩
          · first | exact R | ((repeat apply Exists.intro); refine ⟨R, ?_⟩; and_intros <;> rfl)
          · have := HKL.out
            simp [intOf]
            omega
        by_cases q3 : c < best
        · have CL := hid (show creditT (tC M best) 1 c = (tC M best, 12) from by rw [credit_tC, if_neg (by omega), if_pos q3])
          go_upto_region 22 with (first | (go_at_call 12; go_loud (refine (lcre_calls L.out c HCB.out).mono ?_; rintro e u1 ⟨rfl, hl, _⟩; rw [CL.out] at hl ⊢; have Lu := hid hl; clear hl; dsimp only)) | (go_at_call 13; go_loud (refine (ljob_calls Lu.out).mono ?_; rintro e v1 ⟨rfl, hl⟩; rw [job_tC]; have Lj := hid hl; clear hl; simp only [jobRes, Option.getD_some, Option.isSome_some])) | (refine wpListQ_alloc (o := ⟨some 15, _, _, _, _, _⟩) 37 rfl rfl zjob 6 info_job ?_) | (refine wpListQ_store_new (o := ⟨none, _, 0, _, _, _⟩) rfl 37 (.tmp 15) (.tmp 63) rfl zjob (jobV (jc M 0 best)).toArray rfl rfl size_job rfl (all_oneCell_toArray (jobV_one _)) ?_))
          obtain ⟨z, hz⟩ : ∃ z, v1.heap.size = z := ⟨_, rfl⟩
          have N1 := hid (show LT w (v1.alloc (.cells (jobV (jc M 0 best)).toArray 37)) T b (tC M best) [] from (Lj.out.mk1 _).drop)
          have K1 := hid (show Blk (v1.alloc (.cells (jobV (jc M 0 best)).toArray 37)) z (jobV (jc M 0 best)) 37 from by rw [← hz]; exact blk_alloc v1 (jobV (jc M 0 best)) 37)
          rw [hz]
          generalize (v1.alloc (.cells (jobV (jc M 0 best)).toArray 37)) = x1 at N1 K1 ⊢
          clear hz Lj
          have c5 : x1.cell? ⟨z, 5, none⟩ = some (.int .i64 best) := K1.out.get 5 rfl
          have HB := hid hbest
          have HK := hid hk30
          have HKL := hid hkl
          go_wp2_with fail
          have R : CrRel w T b M l0.length (.int .i64 best) (.int .i64 ((k : Int) + 1)) x1 := ⟨k + 1, best, rfl, by rw [show ((k + 1 : Nat) : Int) = (k : Int) + 1 from by omega], HB.out.1, HB.out.2, HK.out, HKL.out, N1.out⟩
          refine ⟨?_, ?_⟩
          · first | exact R | ((repeat apply Exists.intro); refine ⟨R, ?_⟩; and_intros <;> rfl)
          · have := HKL.out
            simp [intOf]
            omega
        · have HQ1 := hid q1
          have HQ2 := hid q2
          have CL := hid (show creditT (tC M best) 1 c = (tC M c, 0) from by rw [credit_tC, if_neg (by omega), if_neg q3])
          go_upto_region 22 with (first | (go_at_call 12; go_loud (refine (lcre_calls L.out c HCB.out).mono ?_; rintro e u1 ⟨rfl, hl, _⟩; rw [CL.out] at hl ⊢; have Lu := hid hl; clear hl; dsimp only)) | (go_at_call 13; go_loud (refine (ljob_calls Lu.out).mono ?_; rintro e v1 ⟨rfl, hl⟩; rw [job_tC]; have Lj := hid hl; clear hl; simp only [jobRes, Option.getD_some, Option.isSome_some])) | (refine wpListQ_alloc (o := ⟨some 15, _, _, _, _, _⟩) 37 rfl rfl zjob 6 info_job ?_) | (refine wpListQ_store_new (o := ⟨none, _, 0, _, _, _⟩) rfl 37 (.tmp 15) (.tmp 63) rfl zjob (jobV (jc M 0 c)).toArray rfl rfl size_job rfl (all_oneCell_toArray (jobV_one _)) ?_))
          obtain ⟨z, hz⟩ : ∃ z, v1.heap.size = z := ⟨_, rfl⟩
          have N1 := hid (show LT w (v1.alloc (.cells (jobV (jc M 0 c)).toArray 37)) T b (tC M c) [] from (Lj.out.mk1 _).drop)
          have K1 := hid (show Blk (v1.alloc (.cells (jobV (jc M 0 c)).toArray 37)) z (jobV (jc M 0 c)) 37 from by rw [← hz]; exact blk_alloc v1 (jobV (jc M 0 c)) 37)
          rw [hz]
          generalize (v1.alloc (.cells (jobV (jc M 0 c)).toArray 37)) = x1 at N1 K1 ⊢
          clear hz Lj
          have c5 : x1.cell? ⟨z, 5, none⟩ = some (.int .i64 c) := K1.out.get 5 rfl
          have HB := hid hbest
          have HK := hid hk30
          have HKL := hid hkl
          go_wp2_with fail
          have R : CrRel w T b M l0.length (.int .i64 c) (.int .i64 ((k : Int) + 1)) x1 := ⟨k + 1, c, rfl, by rw [show ((k + 1 : Nat) : Int) = (k : Int) + 1 from by omega], by have := HQ1.out; omega, by have := HQ2.out; omega, HK.out, HKL.out, N1.out⟩
          refine ⟨?_, ?_⟩
          · first | exact R | ((repeat apply Exists.intro); refine ⟨R, ?_⟩; and_intros <;> rfl)
          · have := HKL.out
            simp [intOf]
            omega
      · have hk30' : (30 : Int) ≤ (k : Int) := by omega
        clear hk30
        cases a2 with
        | true =>
          have CN := hid (cancel_tC M best)
          have CE := hid (cre_tE M best M 5 2 (by omega))
          have FE := hid (fin_tE M best 5 2 (by omega))
          have HMB := hid (show -9223372036854775808 ≤ M ∧ M ≤ 9223372036854775807 from by omega)
          go_upto_region 30 with (first | (go_at_call 11; go_loud (refine (ldo_calls L.out cnQ cnQ_ok HL.out).mono ?_; rintro e u1 ⟨rfl, hl, _⟩; rw [CN.out] at hl; have Lu := hid hl; clear hl)) | (go_at_call 13; go_loud (refine (ljob_calls Lu.out).mono ?_; rintro e v1 ⟨rfl, hl⟩; rw [job_tE]; have Lj := hid hl; clear hl; simp only [jobRes, Option.getD_some, Option.isSome_some])) | (refine wpListQ_alloc (o := ⟨some 17, _, _, _, _, _⟩) 37 rfl rfl zjob 6 info_job ?_) | (refine wpListQ_store_new (o := ⟨none, _, 0, _, _, _⟩) rfl 37 (.tmp 17) (.tmp 80) rfl zjob (jobV (jc M 5 best)).toArray rfl rfl size_job rfl (all_oneCell_toArray (jobV_one _)) ?_))
          obtain ⟨z, hz⟩ : ∃ z, v1.heap.size = z := ⟨_, rfl⟩
          have N1 := hid (show LT w (v1.alloc (.cells (jobV (jc M 5 best)).toArray 37)) T b (tE M best 5 2) [] from (Lj.out.mk1 _).drop)
          have K1 := hid (show Blk (v1.alloc (.cells (jobV (jc M 5 best)).toArray 37)) z (jobV (jc M 5 best)) 37 from by rw [← hz]; exact blk_alloc v1 (jobV (jc M 5 best)) 37)
          rw [hz]
          generalize (v1.alloc (.cells (jobV (jc M 5 best)).toArray 37)) = x1 at N1 K1 ⊢
          clear hz Lj
          have c4 : x1.cell? ⟨z, 4, none⟩ = some (.int .u8 5) := K1.out.get 4 rfl
          have c5 : x1.cell? ⟨z, 5, none⟩ = some (.int .i64 best) := K1.out.get 5 rfl
          go_wp2_with (first | (go_at_call 12; go_loud (refine (lcre_calls N1.out M HMB.out).mono ?_; rintro e u2 ⟨rfl, hl, _⟩; rw [CE.out] at hl ⊢; have L2 := hid hl; clear hl; dsimp only)) | (go_at_call 14; go_loud (refine (lfinc_calls L2.out).mono ?_; rintro e u3 ⟨rfl, hl, _⟩; rw [FE.out] at hl ⊢; have L3 := hid hl; clear hl; dsimp only)))
          go_ret
          exact ⟨rfl, L3.out.1⟩
        | false =>
          have FT := hid (finish_tC M best)
          have CE := hid (cre_tE M M M 4 1 (by omega))
          have FE := hid (fin_tE M M 4 1 (by omega))
          have HMB := hid (show -9223372036854775808 ≤ M ∧ M ≤ 9223372036854775807 from by omega)
          go_upto_region 30 with (first | (go_at_call 14; go_loud (refine (lfinc_calls L.out).mono ?_; rintro e u1 ⟨rfl, hl, _⟩; rw [FT.out] at hl ⊢; have Lu := hid hl; clear hl; dsimp only)) | (go_at_call 13; go_loud (refine (ljob_calls Lu.out).mono ?_; rintro e v1 ⟨rfl, hl⟩; rw [job_tE]; have Lj := hid hl; clear hl; simp only [jobRes, Option.getD_some, Option.isSome_some])) | (refine wpListQ_alloc (o := ⟨some 17, _, _, _, _, _⟩) 37 rfl rfl zjob 6 info_job ?_) | (refine wpListQ_store_new (o := ⟨none, _, 0, _, _, _⟩) rfl 37 (.tmp 17) (.tmp 80) rfl zjob (jobV (jc M 4 M)).toArray rfl rfl size_job rfl (all_oneCell_toArray (jobV_one _)) ?_))
          obtain ⟨z, hz⟩ : ∃ z, v1.heap.size = z := ⟨_, rfl⟩
          have N1 := hid (show LT w (v1.alloc (.cells (jobV (jc M 4 M)).toArray 37)) T b (tE M M 4 1) [] from (Lj.out.mk1 _).drop)
          have K1 := hid (show Blk (v1.alloc (.cells (jobV (jc M 4 M)).toArray 37)) z (jobV (jc M 4 M)) 37 from by rw [← hz]; exact blk_alloc v1 (jobV (jc M 4 M)) 37)
          rw [hz]
          generalize (v1.alloc (.cells (jobV (jc M 4 M)).toArray 37)) = x1 at N1 K1 ⊢
          clear hz Lj
          have c4 : x1.cell? ⟨z, 4, none⟩ = some (.int .u8 4) := K1.out.get 4 rfl
          have c5 : x1.cell? ⟨z, 5, none⟩ = some (.int .i64 M) := K1.out.get 5 rfl
          go_wp2_with (first | (go_at_call 12; go_loud (refine (lcre_calls N1.out M HMB.out).mono ?_; rintro e u2 ⟨rfl, hl, _⟩; rw [CE.out] at hl ⊢; have L2 := hid hl; clear hl; dsimp only)) | (go_at_call 14; go_loud (refine (lfinc_calls L2.out).mono ?_; rintro e u3 ⟨rfl, hl, _⟩; rw [FE.out] at hl ⊢; have L3 := hid hl; clear hl; dsimp only)))
          go_ret
          exact ⟨rfl, L3.out.1⟩
    · have hkl' : ¬ ((k : Int) < (l0.length : Int)) := by omega
      clear hkl
      cases a2 with
      | true =>
        have CN := hid (cancel_tC M best)
        have CE := hid (cre_tE M best M 5 2 (by omega))
        have FE := hid (fin_tE M best 5 2 (by omega))
        have HMB := hid (show -9223372036854775808 ≤ M ∧ M ≤ 9223372036854775807 from by omega)
        go_upto_region 30 with (first | (go_at_call 11; go_loud (refine (ldo_calls L.out cnQ cnQ_ok HL.out).mono ?_; rintro e u1 ⟨rfl, hl, _⟩; rw [CN.out] at hl; have Lu := hid hl; clear hl)) | (go_at_call 13; go_loud (refine (ljob_calls Lu.out).mono ?_; rintro e v1 ⟨rfl, hl⟩; rw [job_tE]; have Lj := hid hl; clear hl; simp only [jobRes, Option.getD_some, Option.isSome_some])) | (refine wpListQ_alloc (o := ⟨some 17, _, _, _, _, _⟩) 37 rfl rfl zjob 6 info_job ?_) | (refine wpListQ_store_new (o := ⟨none, _, 0, _, _, _⟩) rfl 37 (.tmp 17) (.tmp 80) rfl zjob (jobV (jc M 5 best)).toArray rfl rfl size_job rfl (all_oneCell_toArray (jobV_one _)) ?_))
        obtain ⟨z, hz⟩ : ∃ z, v1.heap.size = z := ⟨_, rfl⟩
        have N1 := hid (show LT w (v1.alloc (.cells (jobV (jc M 5 best)).toArray 37)) T b (tE M best 5 2) [] from (Lj.out.mk1 _).drop)
        have K1 := hid (show Blk (v1.alloc (.cells (jobV (jc M 5 best)).toArray 37)) z (jobV (jc M 5 best)) 37 from by rw [← hz]; exact blk_alloc v1 (jobV (jc M 5 best)) 37)
        rw [hz]
        generalize (v1.alloc (.cells (jobV (jc M 5 best)).toArray 37)) = x1 at N1 K1 ⊢
        clear hz Lj
        have c4 : x1.cell? ⟨z, 4, none⟩ = some (.int .u8 5) := K1.out.get 4 rfl
        have c5 : x1.cell? ⟨z, 5, none⟩ = some (.int .i64 best) := K1.out.get 5 rfl
        go_wp2_with (first | (go_at_call 12; go_loud (refine (lcre_calls N1.out M HMB.out).mono ?_; rintro e u2 ⟨rfl, hl, _⟩; rw [CE.out] at hl ⊢; have L2 := hid hl; clear hl; dsimp only)) | (go_at_call 14; go_loud (refine (lfinc_calls L2.out).mono ?_; rintro e u3 ⟨rfl, hl, _⟩; rw [FE.out] at hl ⊢; have L3 := hid hl; clear hl; dsimp only)))
        go_ret
        exact ⟨rfl, L3.out.1⟩
      | false =>
        have FT := hid (finish_tC M best)
        have CE := hid (cre_tE M M M 4 1 (by omega))
        have FE := hid (fin_tE M M 4 1 (by omega))
        have HMB := hid (show -9223372036854775808 ≤ M ∧ M ≤ 9223372036854775807 from by omega)
        go_upto_region 30 with (first | (go_at_call 14; go_loud (refine (lfinc_calls L.out).mono ?_; rintro e u1 ⟨rfl, hl, _⟩; rw [FT.out] at hl ⊢; have Lu := hid hl; clear hl; dsimp only)) | (go_at_call 13; go_loud (refine (ljob_calls Lu.out).mono ?_; rintro e v1 ⟨rfl, hl⟩; rw [job_tE]; have Lj := hid hl; clear hl; simp only [jobRes, Option.getD_some, Option.isSome_some])) | (refine wpListQ_alloc (o := ⟨some 17, _, _, _, _, _⟩) 37 rfl rfl zjob 6 info_job ?_) | (refine wpListQ_store_new (o := ⟨none, _, 0, _, _, _⟩) rfl 37 (.tmp 17) (.tmp 80) rfl zjob (jobV (jc M 4 M)).toArray rfl rfl size_job rfl (all_oneCell_toArray (jobV_one _)) ?_))
        obtain ⟨z, hz⟩ : ∃ z, v1.heap.size = z := ⟨_, rfl⟩
        have N1 := hid (show LT w (v1.alloc (.cells (jobV (jc M 4 M)).toArray 37)) T b (tE M M 4 1) [] from (Lj.out.mk1 _).drop)
        have K1 := hid (show Blk (v1.alloc (.cells (jobV (jc M 4 M)).toArray 37)) z (jobV (jc M 4 M)) 37 from by rw [← hz]; exact blk_alloc v1 (jobV (jc M 4 M)) 37)
        rw [hz]
        generalize (v1.alloc (.cells (jobV (jc M 4 M)).toArray 37)) = x1 at N1 K1 ⊢
        clear hz Lj
        have c4 : x1.cell? ⟨z, 4, none⟩ = some (.int .u8 4) := K1.out.get 4 rfl
        have c5 : x1.cell? ⟨z, 5, none⟩ = some (.int .i64 M) := K1.out.get 5 rfl
        go_wp2_with (first | (go_at_call 12; go_loud (refine (lcre_calls N1.out M HMB.out).mono ?_; rintro e u2 ⟨rfl, hl, _⟩; rw [CE.out] at hl ⊢; have L2 := hid hl; clear hl; dsimp only)) | (go_at_call 14; go_loud (refine (lfinc_calls L2.out).mono ?_; rintro e u3 ⟨rfl, hl, _⟩; rw [FE.out] at hl ⊢; have L3 := hid hl; clear hl; dsimp only)))
        go_ret
        exact ⟨rfl, L3.out.1⟩

end Go.Proofs.YtombndhjoaaaiaaDoor
