/- The walks of layer 4: is a note right? -/
import Derived.Test.YtmmcmldcbdaooaaDoorNoteA
import Derived.Test.YtmmcmldcbdaooaaDoorRowOps
import Derived.Deep.Cut
import Derived.Deep.CutRange
namespace Go.Proofs.YtmmcmldcbdaooaaDoor
open Go.RowKit Go.Quad _root_.Quad _root_.Quad.Ink

set_option maxRecDepth 100000 in
set_option maxHeartbeats 2000000 in
theorem rightNote_calls (n : NoteD) (a : Option Addr) (c : Nat) (w : World) (h : n.Ok) (hb : n.blob.length ≤ 9223372036854775807) :
    Calls Tryd.prog 33 #[.agg (noteV n (.slice a n.blob.length c)).toArray] w (Said (formN n) w) := by
  obtain ⟨kind, node, epoch, life, tick, gen, job, ver, rank, credit, frm, til, blob⟩ := n
  obtain ⟨h1, h2, h3, h4, h5, h6, h7, h8, h9, h10, h11, h12⟩ := h
  dsimp only at h1 h2 h3 h4 h5 h6 h7 h8 h9 h10 h11 h12 hb
  obtain ⟨bl, hbl⟩ : ∃ bl, blob.length = bl := ⟨_, rfl⟩
  have hform : formN ⟨kind, node, epoch, life, tick, gen, job, ver, rank, credit, frm, til, blob⟩ = (fOk kind && decide (node < 16) && decide (rank < 16) && (decide (0 ≤ credit) && decide (credit ≤ 10000)) && decide (bl ≤ 1024) &&
  (fNode kind || node == 0) && (fEpoch kind || epoch == 0) && (fLife kind || life == 0) && (fTick kind || tick == 0) && (fGen kind || gen == 0) && (fJob kind || job == 0) &&
  (fVer kind || ver == 0) && (fRank kind || rank == 0) && (fCredit kind || credit == 0) && (fFrom kind || frm == 0) && (fTo kind || til == 0) && (fBlob kind || bl == 0)) := by rw [← hbl]; rfl
  have hv : noteV ⟨kind, node, epoch, life, tick, gen, job, ver, rank, credit, frm, til, blob⟩ (.slice a blob.length c) = [.int .u8 (kind : Int), .int .u8 (node : Int), .int .u32 (epoch : Int), .int .u32 (life : Int), .int .u32 (tick : Int), .int .u32 (gen : Int), .int .u32 (job : Int), .int .u32 (ver : Int), .int .u8 (rank : Int), .int .i64 credit, .int .u32 (frm : Int), .int .u32 (til : Int), .slice a bl c] := by rw [← hbl]; rfl
  rw [hform, hv]
  clear hform hv
  have b1 : (bl : Int) ≤ 9223372036854775807 := by omega
  clear hbl hb
  obtain ⟨f0, f1, f2, f3, f4, f5, f6, f7, f8, f9, f10, f11, f12, hf, he⟩ : ∃ f0 f1 f2 f3 f4 f5 f6 f7 f8 f9 f10 f11 f12 : Bool, (fieldsV kind = [.bool f1, .bool f2, .bool f3, .bool f4, .bool f5, .bool f6, .bool f7, .bool f8, .bool f9, .bool f10, .bool f11, .bool f12] ∧ fOk kind = f0) ∧
    (fOk kind && decide (node < 16) && decide (rank < 16) && (decide (0 ≤ credit) && decide (credit ≤ 10000)) && decide (bl ≤ 1024) && (fNode kind || node == 0) && (fEpoch kind || epoch == 0) && (fLife kind || life == 0) && (fTick kind || tick == 0) && (fGen kind || gen == 0) && (fJob kind || job == 0) && (fVer kind || ver == 0) && (fRank kind || rank == 0) && (fCredit kind || credit == 0) && (fFrom kind || frm == 0) && (fTo kind || til == 0) && (fBlob kind || bl == 0)) = (f0 && decide (node < 16) && decide (rank < 16) && (decide (0 ≤ credit) && decide (credit ≤ 10000)) && decide (bl ≤ 1024) && (f1 || node == 0) && (f2 || epoch == 0) && (f3 || life == 0) && (f4 || tick == 0) && (f5 || gen == 0) && (f6 || job == 0) && (f7 || ver == 0) && (f8 || rank == 0) && (f9 || credit == 0) && (f10 || frm == 0) && (f11 || til == 0) && (f12 || bl == 0)) := ⟨_, _, _, _, _, _, _, _, _, _, _, _, _, ⟨rfl, rfl⟩, rfl⟩
  rw [he]
  obtain ⟨res, hres⟩ : ∃ res, (f0 && decide (node < 16) && decide (rank < 16) && (decide (0 ≤ credit) && decide (credit ≤ 10000)) && decide (bl ≤ 1024) && (f1 || node == 0) && (f2 || epoch == 0) && (f3 || life == 0) && (f4 || tick == 0) && (f5 || gen == 0) && (f6 || job == 0) && (f7 || ver == 0) && (f8 || rank == 0) && (f9 || credit == 0) && (f10 || frm == 0) && (f11 || til == 0) && (f12 || bl == 0)) = res := ⟨_, rfl⟩
  rw [hres]
  have Hres := hid hres
  clear hres
  have Hf := hid hf
  clear hf he
  go_enter Tryd.func33, Tryd.ntmps33
  go_wp2_with fail
  refine (of_calls kind _ h1).mono ?_
  rintro e w1 ⟨rfl, hb⟩
  rw [Hf.out.1, Hf.out.2]
  have B1 := (blk_alloc w [.int .u8 (kind : Int), .int .u8 (node : Int), .int .u32 (epoch : Int), .int .u32 (life : Int), .int .u32 (tick : Int), .int .u32 (gen : Int), .int .u32 (job : Int), .int .u32 (ver : Int), .int .u8 (rank : Int), .int .i64 credit, .int .u32 (frm : Int), .int .u32 (til : Int), .slice a bl c] 25).below hb
  have c1 := B1.get 1 rfl
  have c2 := B1.get 2 rfl
  have c3 := B1.get 3 rfl
  have c4 := B1.get 4 rfl
  have c5 := B1.get 5 rfl
  have c6 := B1.get 6 rfl
  have c7 := B1.get 7 rfl
  have c8 := B1.get 8 rfl
  have c9 := B1.get 9 rfl
  have c10 := B1.get 10 rfl
  have c11 := B1.get 11 rfl
  have c12 := B1.get 12 rfl
  have hz : w.heap.size < w1.heap.size := B1.lt
  have Hb := hid ((below_alloc w _).trans (hb.mono (by simp)))
  clear hb B1 Hf
  go_upto_region 2 with fail
  have hn : (node : Int) ≤ 255 := by omega
  have hr : (rank : Int) ≤ 255 := by omega
  cases f0
  case' false =>
    have Fin := hid (show (false && decide (node < 16) && decide (rank < 16) && (decide (0 ≤ credit) && decide (credit ≤ 10000)) && decide (bl ≤ 1024) && (f1 || node == 0) && (f2 || epoch == 0) && (f3 || life == 0) && (f4 || tick == 0) && (f5 || gen == 0) && (f6 || job == 0) && (f7 || ver == 0) && (f8 || rank == 0) && (f9 || credit == 0) && (f10 || frm == 0) && (f11 || til == 0) && (f12 || bl == 0)) = false from by simp)
    try dsimp only
    repeat (first | (refine wpList_skip' (rest := ⟨some 12, _, _, _, _, _⟩ :: _) (by kernel_rfl) ?_) | go_step)
    rw [← Hres.out, Fin.out]
    refine bodyPost_ret (v := .bool false) ?_ ?_ ?_
    · kernel_rfl
    · kernel_rfl
    · exact ⟨rfl, Hb.out.trans ((below_alloc w1 _).mono Hb.out.size)⟩
  by_cases hn16 : node < 16
  case' neg =>
    have Fin := hid (show (true && decide (node < 16) && decide (rank < 16) && (decide (0 ≤ credit) && decide (credit ≤ 10000)) && decide (bl ≤ 1024) && (f1 || node == 0) && (f2 || epoch == 0) && (f3 || life == 0) && (f4 || tick == 0) && (f5 || gen == 0) && (f6 || job == 0) && (f7 || ver == 0) && (f8 || rank == 0) && (f9 || credit == 0) && (f10 || frm == 0) && (f11 || til == 0) && (f12 || bl == 0)) = false from by simp [hn16])
    have hn16' : decide ((node : Int) < 16) = false := by simp; omega
    try dsimp only
    repeat (first | (refine wpList_skip' (rest := ⟨some 16, _, _, _, _, _⟩ :: _) (by kernel_rfl) ?_) | go_step)
    rw [← Hres.out, Fin.out]
    refine bodyPost_ret (v := .bool false) ?_ ?_ ?_
    · kernel_rfl
    · kernel_rfl
    · exact ⟨rfl, Hb.out.trans ((below_alloc w1 _).mono Hb.out.size)⟩
  by_cases hr16 : rank < 16
  case' neg =>
    have Fin := hid (show (true && decide (node < 16) && decide (rank < 16) && (decide (0 ≤ credit) && decide (credit ≤ 10000)) && decide (bl ≤ 1024) && (f1 || node == 0) && (f2 || epoch == 0) && (f3 || life == 0) && (f4 || tick == 0) && (f5 || gen == 0) && (f6 || job == 0) && (f7 || ver == 0) && (f8 || rank == 0) && (f9 || credit == 0) && (f10 || frm == 0) && (f11 || til == 0) && (f12 || bl == 0)) = false from by simp [hr16])
    have hr16' : decide ((rank : Int) < 16) = false := by simp; omega
    try dsimp only
    repeat (first | (refine wpList_skip' (rest := ⟨some 21, _, _, _, _, _⟩ :: _) (by kernel_rfl) ?_) | go_step)
    rw [← Hres.out, Fin.out]
    refine bodyPost_ret (v := .bool false) ?_ ?_ ?_
    · kernel_rfl
    · kernel_rfl
    · exact ⟨rfl, Hb.out.trans ((below_alloc w1 _).mono Hb.out.size)⟩
  go_wp2_with fail
  refine (wall_calls credit _).mono ?_
  rintro e w' ⟨rfl, rfl⟩
  rcases Bool.eq_false_or_eq_true (decide (0 ≤ credit) && decide (credit ≤ 10000)) with hw | hw
  case' inr =>
    have Fin := hid (show (true && decide (node < 16) && decide (rank < 16) && (decide (0 ≤ credit) && decide (credit ≤ 10000)) && decide (bl ≤ 1024) && (f1 || node == 0) && (f2 || epoch == 0) && (f3 || life == 0) && (f4 || tick == 0) && (f5 || gen == 0) && (f6 || job == 0) && (f7 || ver == 0) && (f8 || rank == 0) && (f9 || credit == 0) && (f10 || frm == 0) && (f11 || til == 0) && (f12 || bl == 0)) = false from by rw [hw]; simp)
    rw [hw]
    clear hw
    dsimp only
    go_step
    refine wpList_skip' (by kernel_rfl) ?_
    go_step
    go_step
    go_step
    rw [← Hres.out, Fin.out]
    refine bodyPost_ret (v := .bool false) ?_ ?_ ?_
    · kernel_rfl
    · kernel_rfl
    · exact ⟨rfl, Hb.out.trans ((below_alloc w1 _).mono Hb.out.size)⟩
  have Hhw := hid hw
  rw [hw]
  clear hw
  have hc0 : 0 ≤ credit ∧ credit ≤ 10000 := by have := Hhw.out; simpa using this
  by_cases hbl : bl ≤ 1024
  case' neg =>
    have Fin := hid (show (true && decide (node < 16) && decide (rank < 16) && (decide (0 ≤ credit) && decide (credit ≤ 10000)) && decide (bl ≤ 1024) && (f1 || node == 0) && (f2 || epoch == 0) && (f3 || life == 0) && (f4 || tick == 0) && (f5 || gen == 0) && (f6 || job == 0) && (f7 || ver == 0) && (f8 || rank == 0) && (f9 || credit == 0) && (f10 || frm == 0) && (f11 || til == 0) && (f12 || bl == 0)) = false from by simp [hbl])
    have hbl' : decide ((bl : Int) ≤ 1024) = false := by simp; omega
    try dsimp only
    repeat (first | (refine wpList_skip' (rest := ⟨some 32, _, _, _, _, _⟩ :: _) (by kernel_rfl) ?_) | go_step)
    rw [← Hres.out, Fin.out]
    refine bodyPost_ret (v := .bool false) ?_ ?_ ?_
    · kernel_rfl
    · kernel_rfl
    · exact ⟨rfl, Hb.out.trans ((below_alloc w1 _).mono Hb.out.size)⟩
  have hbl' : (bl : Int) ≤ 1024 := by omega
  obtain ⟨cn, rfl⟩ : ∃ cn : Nat, credit = (cn : Int) := ⟨credit.toNat, by omega⟩
  have hcn : (cn : Int) ≤ 10000 := hc0.2
  go_wp2_with fail
  refine (none_calls node f1 _ (by omega)).mono ?_
  rintro e w' ⟨rfl, rfl⟩
  rcases Bool.eq_false_or_eq_true (f1 || node == 0) with k1 | k1
  case' inr =>
    have Fin := hid (show (true && decide (node < 16) && decide (rank < 16) && (decide (0 ≤ (cn : Int)) && decide ((cn : Int) ≤ 10000)) && decide (bl ≤ 1024) && (f1 || node == 0) && (f2 || epoch == 0) && (f3 || life == 0) && (f4 || tick == 0) && (f5 || gen == 0) && (f6 || job == 0) && (f7 || ver == 0) && (f8 || rank == 0) && (f9 || (cn : Int) == 0) && (f10 || frm == 0) && (f11 || til == 0) && (f12 || bl == 0)) = false from by rw [k1]; simp)
    rw [k1]
    clear k1
    dsimp only
    go_step
    refine wpList_skip' (by kernel_rfl) ?_
    go_step
    go_step
    go_step
    rw [← Hres.out, Fin.out]
    refine bodyPost_ret (v := .bool false) ?_ ?_ ?_
    · kernel_rfl
    · kernel_rfl
    · exact ⟨rfl, Hb.out.trans ((below_alloc w1 _).mono Hb.out.size)⟩
  have Hk1 := hid k1
  rw [k1]
  clear k1
  go_wp2_with fail
  refine (none_calls epoch f2 _ (by omega)).mono ?_
  rintro e w' ⟨rfl, rfl⟩
  rcases Bool.eq_false_or_eq_true (f2 || epoch == 0) with k2 | k2
  case' inr =>
    have Fin := hid (show (true && decide (node < 16) && decide (rank < 16) && (decide (0 ≤ (cn : Int)) && decide ((cn : Int) ≤ 10000)) && decide (bl ≤ 1024) && (f1 || node == 0) && (f2 || epoch == 0) && (f3 || life == 0) && (f4 || tick == 0) && (f5 || gen == 0) && (f6 || job == 0) && (f7 || ver == 0) && (f8 || rank == 0) && (f9 || (cn : Int) == 0) && (f10 || frm == 0) && (f11 || til == 0) && (f12 || bl == 0)) = false from by rw [k2]; simp)
    rw [k2]
    clear k2
    dsimp only
    go_step
    refine wpList_skip' (by kernel_rfl) ?_
    go_step
    go_step
    go_step
    rw [← Hres.out, Fin.out]
    refine bodyPost_ret (v := .bool false) ?_ ?_ ?_
    · kernel_rfl
    · kernel_rfl
    · exact ⟨rfl, Hb.out.trans ((below_alloc w1 _).mono Hb.out.size)⟩
  have Hk2 := hid k2
  rw [k2]
  clear k2
  go_wp2_with fail
  refine (none_calls life f3 _ (by omega)).mono ?_
  rintro e w' ⟨rfl, rfl⟩
  rcases Bool.eq_false_or_eq_true (f3 || life == 0) with k3 | k3
  case' inr =>
    have Fin := hid (show (true && decide (node < 16) && decide (rank < 16) && (decide (0 ≤ (cn : Int)) && decide ((cn : Int) ≤ 10000)) && decide (bl ≤ 1024) && (f1 || node == 0) && (f2 || epoch == 0) && (f3 || life == 0) && (f4 || tick == 0) && (f5 || gen == 0) && (f6 || job == 0) && (f7 || ver == 0) && (f8 || rank == 0) && (f9 || (cn : Int) == 0) && (f10 || frm == 0) && (f11 || til == 0) && (f12 || bl == 0)) = false from by rw [k3]; simp)
    rw [k3]
    clear k3
    dsimp only
    go_step
    refine wpList_skip' (by kernel_rfl) ?_
    go_step
    go_step
    go_step
    rw [← Hres.out, Fin.out]
    refine bodyPost_ret (v := .bool false) ?_ ?_ ?_
    · kernel_rfl
    · kernel_rfl
    · exact ⟨rfl, Hb.out.trans ((below_alloc w1 _).mono Hb.out.size)⟩
  have Hk3 := hid k3
  rw [k3]
  clear k3
  go_wp2_with fail
  refine (none_calls tick f4 _ (by omega)).mono ?_
  rintro e w' ⟨rfl, rfl⟩
  rcases Bool.eq_false_or_eq_true (f4 || tick == 0) with k4 | k4
  case' inr =>
    have Fin := hid (show (true && decide (node < 16) && decide (rank < 16) && (decide (0 ≤ (cn : Int)) && decide ((cn : Int) ≤ 10000)) && decide (bl ≤ 1024) && (f1 || node == 0) && (f2 || epoch == 0) && (f3 || life == 0) && (f4 || tick == 0) && (f5 || gen == 0) && (f6 || job == 0) && (f7 || ver == 0) && (f8 || rank == 0) && (f9 || (cn : Int) == 0) && (f10 || frm == 0) && (f11 || til == 0) && (f12 || bl == 0)) = false from by rw [k4]; simp)
    rw [k4]
    clear k4
    dsimp only
    go_step
    refine wpList_skip' (by kernel_rfl) ?_
    go_step
    go_step
    go_step
    rw [← Hres.out, Fin.out]
    refine bodyPost_ret (v := .bool false) ?_ ?_ ?_
    · kernel_rfl
    · kernel_rfl
    · exact ⟨rfl, Hb.out.trans ((below_alloc w1 _).mono Hb.out.size)⟩
  have Hk4 := hid k4
  rw [k4]
  clear k4
  go_wp2_with fail
  refine (none_calls gen f5 _ (by omega)).mono ?_
  rintro e w' ⟨rfl, rfl⟩
  rcases Bool.eq_false_or_eq_true (f5 || gen == 0) with k5 | k5
  case' inr =>
    have Fin := hid (show (true && decide (node < 16) && decide (rank < 16) && (decide (0 ≤ (cn : Int)) && decide ((cn : Int) ≤ 10000)) && decide (bl ≤ 1024) && (f1 || node == 0) && (f2 || epoch == 0) && (f3 || life == 0) && (f4 || tick == 0) && (f5 || gen == 0) && (f6 || job == 0) && (f7 || ver == 0) && (f8 || rank == 0) && (f9 || (cn : Int) == 0) && (f10 || frm == 0) && (f11 || til == 0) && (f12 || bl == 0)) = false from by rw [k5]; simp)
    rw [k5]
    clear k5
    dsimp only
    go_step
    refine wpList_skip' (by kernel_rfl) ?_
    go_step
    go_step
    go_step
    rw [← Hres.out, Fin.out]
    refine bodyPost_ret (v := .bool false) ?_ ?_ ?_
    · kernel_rfl
    · kernel_rfl
    · exact ⟨rfl, Hb.out.trans ((below_alloc w1 _).mono Hb.out.size)⟩
  have Hk5 := hid k5
  rw [k5]
  clear k5
  go_wp2_with fail
  refine (none_calls job f6 _ (by omega)).mono ?_
  rintro e w' ⟨rfl, rfl⟩
  rcases Bool.eq_false_or_eq_true (f6 || job == 0) with k6 | k6
  case' inr =>
    have Fin := hid (show (true && decide (node < 16) && decide (rank < 16) && (decide (0 ≤ (cn : Int)) && decide ((cn : Int) ≤ 10000)) && decide (bl ≤ 1024) && (f1 || node == 0) && (f2 || epoch == 0) && (f3 || life == 0) && (f4 || tick == 0) && (f5 || gen == 0) && (f6 || job == 0) && (f7 || ver == 0) && (f8 || rank == 0) && (f9 || (cn : Int) == 0) && (f10 || frm == 0) && (f11 || til == 0) && (f12 || bl == 0)) = false from by rw [k6]; simp)
    rw [k6]
    clear k6
    dsimp only
    go_step
    refine wpList_skip' (by kernel_rfl) ?_
    go_step
    go_step
    go_step
    rw [← Hres.out, Fin.out]
    refine bodyPost_ret (v := .bool false) ?_ ?_ ?_
    · kernel_rfl
    · kernel_rfl
    · exact ⟨rfl, Hb.out.trans ((below_alloc w1 _).mono Hb.out.size)⟩
  have Hk6 := hid k6
  rw [k6]
  clear k6
  go_wp2_with fail
  refine (none_calls ver f7 _ (by omega)).mono ?_
  rintro e w' ⟨rfl, rfl⟩
  rcases Bool.eq_false_or_eq_true (f7 || ver == 0) with k7 | k7
  case' inr =>
    have Fin := hid (show (true && decide (node < 16) && decide (rank < 16) && (decide (0 ≤ (cn : Int)) && decide ((cn : Int) ≤ 10000)) && decide (bl ≤ 1024) && (f1 || node == 0) && (f2 || epoch == 0) && (f3 || life == 0) && (f4 || tick == 0) && (f5 || gen == 0) && (f6 || job == 0) && (f7 || ver == 0) && (f8 || rank == 0) && (f9 || (cn : Int) == 0) && (f10 || frm == 0) && (f11 || til == 0) && (f12 || bl == 0)) = false from by rw [k7]; simp)
    rw [k7]
    clear k7
    dsimp only
    go_step
    refine wpList_skip' (by kernel_rfl) ?_
    go_step
    go_step
    go_step
    rw [← Hres.out, Fin.out]
    refine bodyPost_ret (v := .bool false) ?_ ?_ ?_
    · kernel_rfl
    · kernel_rfl
    · exact ⟨rfl, Hb.out.trans ((below_alloc w1 _).mono Hb.out.size)⟩
  have Hk7 := hid k7
  rw [k7]
  clear k7
  go_wp2_with fail
  refine (none_calls rank f8 _ (by omega)).mono ?_
  rintro e w' ⟨rfl, rfl⟩
  rcases Bool.eq_false_or_eq_true (f8 || rank == 0) with k8 | k8
  case' inr =>
    have Fin := hid (show (true && decide (node < 16) && decide (rank < 16) && (decide (0 ≤ (cn : Int)) && decide ((cn : Int) ≤ 10000)) && decide (bl ≤ 1024) && (f1 || node == 0) && (f2 || epoch == 0) && (f3 || life == 0) && (f4 || tick == 0) && (f5 || gen == 0) && (f6 || job == 0) && (f7 || ver == 0) && (f8 || rank == 0) && (f9 || (cn : Int) == 0) && (f10 || frm == 0) && (f11 || til == 0) && (f12 || bl == 0)) = false from by rw [k8]; simp)
    rw [k8]
    clear k8
    dsimp only
    go_step
    refine wpList_skip' (by kernel_rfl) ?_
    go_step
    go_step
    go_step
    rw [← Hres.out, Fin.out]
    refine bodyPost_ret (v := .bool false) ?_ ?_ ?_
    · kernel_rfl
    · kernel_rfl
    · exact ⟨rfl, Hb.out.trans ((below_alloc w1 _).mono Hb.out.size)⟩
  have Hk8 := hid k8
  rw [k8]
  clear k8
  go_wp2_with fail
  refine (none_calls cn f9 _ (by omega)).mono ?_
  rintro e w' ⟨rfl, rfl⟩
  rw [show (cn == 0) = ((cn : Int) == 0) from by rw [Bool.eq_iff_iff]; simp]
  rcases Bool.eq_false_or_eq_true (f9 || (cn : Int) == 0) with k9 | k9
  case' inr =>
    have Fin := hid (show (true && decide (node < 16) && decide (rank < 16) && (decide (0 ≤ (cn : Int)) && decide ((cn : Int) ≤ 10000)) && decide (bl ≤ 1024) && (f1 || node == 0) && (f2 || epoch == 0) && (f3 || life == 0) && (f4 || tick == 0) && (f5 || gen == 0) && (f6 || job == 0) && (f7 || ver == 0) && (f8 || rank == 0) && (f9 || (cn : Int) == 0) && (f10 || frm == 0) && (f11 || til == 0) && (f12 || bl == 0)) = false from by rw [k9]; simp)
    rw [k9]
    clear k9
    dsimp only
    go_step
    refine wpList_skip' (by kernel_rfl) ?_
    go_step
    go_step
    go_step
    rw [← Hres.out, Fin.out]
    refine bodyPost_ret (v := .bool false) ?_ ?_ ?_
    · kernel_rfl
    · kernel_rfl
    · exact ⟨rfl, Hb.out.trans ((below_alloc w1 _).mono Hb.out.size)⟩
  have Hk9 := hid k9
  rw [k9]
  clear k9
  go_wp2_with fail
  refine (none_calls frm f10 _ (by omega)).mono ?_
  rintro e w' ⟨rfl, rfl⟩
  rcases Bool.eq_false_or_eq_true (f10 || frm == 0) with k10 | k10
  case' inr =>
    have Fin := hid (show (true && decide (node < 16) && decide (rank < 16) && (decide (0 ≤ (cn : Int)) && decide ((cn : Int) ≤ 10000)) && decide (bl ≤ 1024) && (f1 || node == 0) && (f2 || epoch == 0) && (f3 || life == 0) && (f4 || tick == 0) && (f5 || gen == 0) && (f6 || job == 0) && (f7 || ver == 0) && (f8 || rank == 0) && (f9 || (cn : Int) == 0) && (f10 || frm == 0) && (f11 || til == 0) && (f12 || bl == 0)) = false from by rw [k10]; simp)
    rw [k10]
    clear k10
    dsimp only
    go_step
    refine wpList_skip' (by kernel_rfl) ?_
    go_step
    go_step
    go_step
    rw [← Hres.out, Fin.out]
    refine bodyPost_ret (v := .bool false) ?_ ?_ ?_
    · kernel_rfl
    · kernel_rfl
    · exact ⟨rfl, Hb.out.trans ((below_alloc w1 _).mono Hb.out.size)⟩
  have Hk10 := hid k10
  rw [k10]
  clear k10
  go_wp2_with fail
  refine (none_calls til f11 _ (by omega)).mono ?_
  rintro e w' ⟨rfl, rfl⟩
  rcases Bool.eq_false_or_eq_true (f11 || til == 0) with k11 | k11
  case' inr =>
    have Fin := hid (show (true && decide (node < 16) && decide (rank < 16) && (decide (0 ≤ (cn : Int)) && decide ((cn : Int) ≤ 10000)) && decide (bl ≤ 1024) && (f1 || node == 0) && (f2 || epoch == 0) && (f3 || life == 0) && (f4 || tick == 0) && (f5 || gen == 0) && (f6 || job == 0) && (f7 || ver == 0) && (f8 || rank == 0) && (f9 || (cn : Int) == 0) && (f10 || frm == 0) && (f11 || til == 0) && (f12 || bl == 0)) = false from by rw [k11]; simp)
    rw [k11]
    clear k11
    dsimp only
    go_step
    refine wpList_skip' (by kernel_rfl) ?_
    go_step
    go_step
    go_step
    rw [← Hres.out, Fin.out]
    refine bodyPost_ret (v := .bool false) ?_ ?_ ?_
    · kernel_rfl
    · kernel_rfl
    · exact ⟨rfl, Hb.out.trans ((below_alloc w1 _).mono Hb.out.size)⟩
  have Hk11 := hid k11
  rw [k11]
  clear k11
  go_wp2_with fail
  refine (none_calls bl f12 _ (by omega)).mono ?_
  rintro e w' ⟨rfl, rfl⟩
  rcases Bool.eq_false_or_eq_true (f12 || bl == 0) with k12 | k12
  case' inr =>
    have Fin := hid (show (true && decide (node < 16) && decide (rank < 16) && (decide (0 ≤ (cn : Int)) && decide ((cn : Int) ≤ 10000)) && decide (bl ≤ 1024) && (f1 || node == 0) && (f2 || epoch == 0) && (f3 || life == 0) && (f4 || tick == 0) && (f5 || gen == 0) && (f6 || job == 0) && (f7 || ver == 0) && (f8 || rank == 0) && (f9 || (cn : Int) == 0) && (f10 || frm == 0) && (f11 || til == 0) && (f12 || bl == 0)) = false from by rw [k12]; simp)
    rw [k12]
    clear k12
    dsimp only
    go_step
    refine wpList_skip' (by kernel_rfl) ?_
    go_step
    go_step
    go_step
    rw [← Hres.out, Fin.out]
    refine bodyPost_ret (v := .bool false) ?_ ?_ ?_
    · kernel_rfl
    · kernel_rfl
    · exact ⟨rfl, Hb.out.trans ((below_alloc w1 _).mono Hb.out.size)⟩
  have Hk12 := hid k12
  rw [k12]
  clear k12
  go_wp2_with fail
  go_ret
  refine ⟨?_, Hb.out.trans ((below_alloc w1 _).mono Hb.out.size)⟩
  have k1 := Hk1.out
  have k2 := Hk2.out
  have k3 := Hk3.out
  have k4 := Hk4.out
  have k5 := Hk5.out
  have k6 := Hk6.out
  have k7 := Hk7.out
  have k8 := Hk8.out
  have k9 := Hk9.out
  have k10 := Hk10.out
  have k11 := Hk11.out
  have k12 := Hk12.out
  have kw := Hhw.out
  rw [← Hres.out, show (true && decide (node < 16) && decide (rank < 16) && (decide (0 ≤ (cn : Int)) && decide ((cn : Int) ≤ 10000)) && decide (bl ≤ 1024) && (f1 || node == 0) && (f2 || epoch == 0) && (f3 || life == 0) && (f4 || tick == 0) && (f5 || gen == 0) && (f6 || job == 0) && (f7 || ver == 0) && (f8 || rank == 0) && (f9 || (cn : Int) == 0) && (f10 || frm == 0) && (f11 || til == 0) && (f12 || bl == 0)) = true from by rw [k1, k2, k3, k4, k5, k6, k7, k8, k9, k10, k11, k12, kw]; simp [hn16, hr16, hbl]]
  rfl
end Go.Proofs.YtmmcmldcbdaooaaDoor
