/- The walks of layer 4: what is read out of bytes, field by field. -/
import Derived.Test.YtmmcmldcbdaooaaDoorNoteF
import Derived.Deep.Cut
import Derived.Deep.CutRange
namespace Go.Proofs.YtmmcmldcbdaooaaDoor
open Go.RowKit Go.Quad _root_.Quad _root_.Quad.Ink

/-- what is read -/
def rdnote (s0 : St) : NoteD × Bool × St :=
  let x0 := numS s0
  let s1 := x0.2
  let x1 := numS s1
  let s2 := x1.2
  let x2 := numS s2
  let s3 := x2.2
  let x3 := numS s3
  let s4 := x3.2
  let x4 := numS s4
  let s5 := x4.2
  let x5 := numS s5
  let s6 := x5.2
  let x6 := numS s6
  let s7 := x6.2
  let x7 := numS s7
  let s8 := x7.2
  let x8 := numS s8
  let s9 := x8.2
  let x9 := intS s9
  let s10 := x9.2
  let x10 := numS s10
  let s11 := x10.2
  let x11 := numS s11
  let s12 := x11.2
  let x12 := textS s12
  let s13 := x12.2
  (⟨x0.1 % 256, x1.1 % 256, x2.1 % 4294967296, x3.1 % 4294967296, x4.1 % 4294967296, x5.1 % 4294967296, x6.1 % 4294967296, x7.1 % 4294967296, x8.1 % 256, (x9.1 : Int), x10.1 % 4294967296, x11.1 % 4294967296, x12.1⟩, (((((((((((false || decide (255 < x0.1)) || decide (255 < x1.1)) || decide (4294967295 < x2.1)) || decide (4294967295 < x3.1)) || decide (4294967295 < x4.1)) || decide (4294967295 < x5.1)) || decide (4294967295 < x6.1)) || decide (4294967295 < x7.1)) || decide (255 < x8.1)) || decide (4294967295 < x10.1)) || decide (4294967295 < x11.1)), s13)

def RdnoteTo (w0 w : World) (g gs : Nat) (s0 : St) : Ending → World → Prop := fun e w' => ∃ v, e = .returned (.agg (noteV (rdnote s0).1 v).toArray) ∧ (∃ a c, v = .slice a (rdnote s0).1.blob.length c ∧ BS w' a c (rdnote s0).1.blob ∧ (∀ x, a = some x → w.heap.size ≤ x.block)) ∧ ScB w0 g gs (rdnote s0).2.2 (rdnote s0).2.1 w' ∧ Chg [g, gs] w w'

set_option maxRecDepth 100000 in
set_option maxHeartbeats 4000000 in
theorem noteRead1_calls {w0 w : World} {g gs : Nat} (s0 : St) (pv : Value) (he : EyeAt w w0.heap.size g s0.1 s0.2) (hs : Blk w gs [pv, .bool false] 86) (hc : Chg [gs] w0 w) (hlt : gs < w0.heap.size) (hl : s0.1.length ≤ 100000) :
    Calls Tryd.prog 46 #[.pointer (some ⟨g, 0, none⟩), .pointer (some ⟨gs, 0, none⟩)] w (RdnoteTo w0 w g gs s0) := by
  have c0 := hs.get 0 rfl
  have f0 := hs.free 0
  have hg : gs < g ∧ g < w.heap.size := by obtain ⟨_, _, h1⟩ := he; exact ⟨Nat.lt_of_lt_of_le hlt h1.ge, h1.own.lt⟩
  have hgs : gs < w.heap.size := by omega
  have HG := hid hg
  have hsz : (w.setCell ⟨gs, 0, none⟩ (.pointer (some ⟨g, 0, none⟩))).heap.size = w.heap.size := by simp
  have hk := chg_setCell w gs 0 (.pointer (some ⟨g, 0, none⟩))
  have hb := below_alloc (w.setCell ⟨gs, 0, none⟩ (.pointer (some ⟨g, 0, none⟩))) (.cells #[.int .u8 0, .int .u8 0, .int .u32 0, .int .u32 0, .int .u32 0, .int .u32 0, .int .u32 0, .int .u32 0, .int .u8 0, .int .i64 0, .int .u32 0, .int .u32 0, .slice none 0 0] 25)
  have S0 := hid (show ScB w0 g gs s0 false ((w.setCell ⟨gs, 0, none⟩ (.pointer (some ⟨g, 0, none⟩))).alloc (.cells #[.int .u8 0, .int .u8 0, .int .u32 0, .int .u32 0, .int .u32 0, .int .u32 0, .int .u32 0, .int .u32 0, .int .u8 0, .int .i64 0, .int .u32 0, .int .u32 0, .slice none 0 0] 25)) from
    ScB.below ⟨he.keep hk (fun k hk => by simp at hk; omega), by simpa using hs.set 0 (.pointer (some ⟨g, 0, none⟩)), hc.trans hk, hlt, hl⟩ hb)
  have Z0 := hid (show Blk ((w.setCell ⟨gs, 0, none⟩ (.pointer (some ⟨g, 0, none⟩))).alloc (.cells #[.int .u8 0, .int .u8 0, .int .u32 0, .int .u32 0, .int .u32 0, .int .u32 0, .int .u32 0, .int .u32 0, .int .u8 0, .int .i64 0, .int .u32 0, .int .u32 0, .slice none 0 0] 25)) w.heap.size [.int .u8 0, .int .u8 0, .int .u32 0, .int .u32 0, .int .u32 0, .int .u32 0, .int .u32 0, .int .u32 0, .int .u8 0, .int .i64 0, .int .u32 0, .int .u32 0, .slice none 0 0] 25 from by
    have := blk_alloc (w.setCell ⟨gs, 0, none⟩ (.pointer (some ⟨g, 0, none⟩))) [.int .u8 0, .int .u8 0, .int .u32 0, .int .u32 0, .int .u32 0, .int .u32 0, .int .u32 0, .int .u32 0, .int .u8 0, .int .i64 0, .int .u32 0, .int .u32 0, .slice none 0 0] 25
    rw [hsz] at this
    exact this)
  have C0 := hid (show Chg [g, gs] w ((w.setCell ⟨gs, 0, none⟩ (.pointer (some ⟨g, 0, none⟩))).alloc (.cells #[.int .u8 0, .int .u8 0, .int .u32 0, .int .u32 0, .int .u32 0, .int .u32 0, .int .u32 0, .int .u32 0, .int .u8 0, .int .i64 0, .int .u32 0, .int .u32 0, .slice none 0 0] 25)) from
    (hk.mono (by simp)).trans (Chg.of_below _ hb))
  clear hk hb hsz
  obtain ⟨gz, hgz⟩ : ∃ gz, w.heap.size = gz := ⟨_, rfl⟩
  have HZ := hid hgz
  rw [hgz] at Z0
  clear hs he hc hl hg hgz
  go_enter Tryd.func46, Tryd.ntmps46
  go_wp2_with fail
  generalize ((w.setCell ⟨gs, 0, none⟩ (.pointer (some ⟨g, 0, none⟩))).alloc (.cells #[.int .u8 0, .int .u8 0, .int .u32 0, .int .u32 0, .int .u32 0, .int .u32 0, .int .u32 0, .int .u32 0, .int .u8 0, .int .i64 0, .int .u32 0, .int .u32 0, .slice none 0 0] 25)) = v0 at S0 Z0 C0 ⊢
  clear c0 f0 hgs
  rw [HZ.out]
  obtain ⟨s1, hs1⟩ : ∃ s', (numS s0).2 = s' := ⟨_, rfl⟩
  obtain ⟨y0, hy0⟩ : ∃ y, (numS s0).1 % 256 = y := ⟨_, rfl⟩
  obtain ⟨q0, hq0⟩ : ∃ q, (false || decide (255 < (numS s0).1)) = q := ⟨_, rfl⟩
  have hC := small_calls S0.out
  rw [hs1, hy0, hq0] at hC
  have yb0 : (y0 : Int) ≤ 255 := by rw [← hy0]; omega
  have Y0 := hid hy0
  have Q0 := hid hq0
  clear hy0 hq0
  have HS1 := hid hs1
  clear hs1
  have HC := hid hC
  clear hC
  refine HC.out.mono ?_
  rintro e v1 ⟨rfl, hS, hK⟩
  have S1 := hid hS
  have Z1 := hid (Z0.out.keep hK (by have := HG.out; have := HZ.out; simp; omega))
  have C1 := hid (C0.out.trans hK)
  clear hS hK HC
  obtain ⟨s2, hs2⟩ : ∃ s', (numS s1).2 = s' := ⟨_, rfl⟩
  obtain ⟨y1, hy1⟩ : ∃ y, (numS s1).1 % 256 = y := ⟨_, rfl⟩
  obtain ⟨q1, hq1⟩ : ∃ q, (q0 || decide (255 < (numS s1).1)) = q := ⟨_, rfl⟩
  have hC := small_calls S1.out
  rw [hs2, hy1, hq1] at hC
  have yb1 : (y1 : Int) ≤ 255 := by rw [← hy1]; omega
  have Y1 := hid hy1
  have Q1 := hid hq1
  clear hy1 hq1
  have HS2 := hid hs2
  clear hs2
  have HC := hid hC
  clear hC
  go_wp2_with fail
  refine HC.out.mono ?_
  rintro e v2 ⟨rfl, hS, hK⟩
  have S2 := hid hS
  have Z2 := hid (Z1.out.keep hK (by have := HG.out; have := HZ.out; simp; omega))
  have C2 := hid (C1.out.trans hK)
  clear hS hK HC
  have c0 := Z2.out.get 0 rfl
  have f0 := Z2.out.free 0
  have c1 := Z2.out.get 1 rfl
  have f1 := Z2.out.free 1
  replace S2 := hid (S2.out.other ((chg_setCell v2 gz 0 (.int .u8 (y0 : Int))).trans (chg_setCell (v2.setCell ⟨gz, 0, none⟩ (.int .u8 (y0 : Int))) gz 1 (.int .u8 (y1 : Int)))) (by have := HG.out; have := HZ.out; simp; omega))
  replace C2 := hid (C2.out.newer ((chg_setCell v2 gz 0 (.int .u8 (y0 : Int))).trans (chg_setCell (v2.setCell ⟨gz, 0, none⟩ (.int .u8 (y0 : Int))) gz 1 (.int .u8 (y1 : Int)))) (by have := HZ.out; simp; omega))
  replace Z2 := hid (show Blk ((v2.setCell ⟨gz, 0, none⟩ (.int .u8 (y0 : Int))).setCell ⟨gz, 1, none⟩ (.int .u8 (y1 : Int))) gz [(.int .u8 (y0 : Int)), (.int .u8 (y1 : Int)), .int .u32 0, .int .u32 0, .int .u32 0, .int .u32 0, .int .u32 0, .int .u32 0, .int .u8 0, .int .i64 0, .int .u32 0, .int .u32 0, .slice none 0 0] 25 from by simpa using ((Z2.out.set 0 (.int .u8 (y0 : Int))).set 1 (.int .u8 (y1 : Int))))
  obtain ⟨s3, hs3⟩ : ∃ s', (numS s2).2 = s' := ⟨_, rfl⟩
  obtain ⟨y2, hy2⟩ : ∃ y, (numS s2).1 % 4294967296 = y := ⟨_, rfl⟩
  obtain ⟨q2, hq2⟩ : ∃ q, (q1 || decide (4294967295 < (numS s2).1)) = q := ⟨_, rfl⟩
  have hC := wide_calls S2.out
  rw [hs3, hy2, hq2] at hC
  have yb2 : (y2 : Int) ≤ 4294967295 := by rw [← hy2]; omega
  have Y2 := hid hy2
  have Q2 := hid hq2
  clear hy2 hq2
  have HS3 := hid hs3
  clear hs3
  have HC := hid hC
  clear hC
  go_wp2_with fail
  generalize ((v2.setCell ⟨gz, 0, none⟩ (.int .u8 (y0 : Int))).setCell ⟨gz, 1, none⟩ (.int .u8 (y1 : Int))) = v2 at S2 Z2 C2 HC ⊢
  clear c0 f0 c1 f1
  refine HC.out.mono ?_
  rintro e v3 ⟨rfl, hS, hK⟩
  have S3 := hid hS
  have Z3 := hid (Z2.out.keep hK (by have := HG.out; have := HZ.out; simp; omega))
  have C3 := hid (C2.out.trans hK)
  clear hS hK HC
  obtain ⟨s4, hs4⟩ : ∃ s', (numS s3).2 = s' := ⟨_, rfl⟩
  obtain ⟨y3, hy3⟩ : ∃ y, (numS s3).1 % 4294967296 = y := ⟨_, rfl⟩
  obtain ⟨q3, hq3⟩ : ∃ q, (q2 || decide (4294967295 < (numS s3).1)) = q := ⟨_, rfl⟩
  have hC := wide_calls S3.out
  rw [hs4, hy3, hq3] at hC
  have yb3 : (y3 : Int) ≤ 4294967295 := by rw [← hy3]; omega
  have Y3 := hid hy3
  have Q3 := hid hq3
  clear hy3 hq3
  have HS4 := hid hs4
  clear hs4
  have HC := hid hC
  clear hC
  go_wp2_with fail
  refine HC.out.mono ?_
  rintro e v4 ⟨rfl, hS, hK⟩
  have S4 := hid hS
  have Z4 := hid (Z3.out.keep hK (by have := HG.out; have := HZ.out; simp; omega))
  have C4 := hid (C3.out.trans hK)
  clear hS hK HC
  obtain ⟨s5, hs5⟩ : ∃ s', (numS s4).2 = s' := ⟨_, rfl⟩
  obtain ⟨y4, hy4⟩ : ∃ y, (numS s4).1 % 4294967296 = y := ⟨_, rfl⟩
  obtain ⟨q4, hq4⟩ : ∃ q, (q3 || decide (4294967295 < (numS s4).1)) = q := ⟨_, rfl⟩
  have hC := wide_calls S4.out
  rw [hs5, hy4, hq4] at hC
  have yb4 : (y4 : Int) ≤ 4294967295 := by rw [← hy4]; omega
  have Y4 := hid hy4
  have Q4 := hid hq4
  clear hy4 hq4
  have HS5 := hid hs5
  clear hs5
  have HC := hid hC
  clear hC
  go_wp2_with fail
  refine HC.out.mono ?_
  rintro e v5 ⟨rfl, hS, hK⟩
  have S5 := hid hS
  have Z5 := hid (Z4.out.keep hK (by have := HG.out; have := HZ.out; simp; omega))
  have C5 := hid (C4.out.trans hK)
  clear hS hK HC
  obtain ⟨s6, hs6⟩ : ∃ s', (numS s5).2 = s' := ⟨_, rfl⟩
  obtain ⟨y5, hy5⟩ : ∃ y, (numS s5).1 % 4294967296 = y := ⟨_, rfl⟩
  obtain ⟨q5, hq5⟩ : ∃ q, (q4 || decide (4294967295 < (numS s5).1)) = q := ⟨_, rfl⟩
  have hC := wide_calls S5.out
  rw [hs6, hy5, hq5] at hC
  have yb5 : (y5 : Int) ≤ 4294967295 := by rw [← hy5]; omega
  have Y5 := hid hy5
  have Q5 := hid hq5
  clear hy5 hq5
  have HS6 := hid hs6
  clear hs6
  have HC := hid hC
  clear hC
  go_wp2_with fail
  refine HC.out.mono ?_
  rintro e v6 ⟨rfl, hS, hK⟩
  have S6 := hid hS
  have Z6 := hid (Z5.out.keep hK (by have := HG.out; have := HZ.out; simp; omega))
  have C6 := hid (C5.out.trans hK)
  clear hS hK HC
  obtain ⟨s7, hs7⟩ : ∃ s', (numS s6).2 = s' := ⟨_, rfl⟩
  obtain ⟨y6, hy6⟩ : ∃ y, (numS s6).1 % 4294967296 = y := ⟨_, rfl⟩
  obtain ⟨q6, hq6⟩ : ∃ q, (q5 || decide (4294967295 < (numS s6).1)) = q := ⟨_, rfl⟩
  have hC := wide_calls S6.out
  rw [hs7, hy6, hq6] at hC
  have yb6 : (y6 : Int) ≤ 4294967295 := by rw [← hy6]; omega
  have Y6 := hid hy6
  have Q6 := hid hq6
  clear hy6 hq6
  have HS7 := hid hs7
  clear hs7
  have HC := hid hC
  clear hC
  go_wp2_with fail
  refine HC.out.mono ?_
  rintro e v7 ⟨rfl, hS, hK⟩
  have S7 := hid hS
  have Z7 := hid (Z6.out.keep hK (by have := HG.out; have := HZ.out; simp; omega))
  have C7 := hid (C6.out.trans hK)
  clear hS hK HC
  obtain ⟨s8, hs8⟩ : ∃ s', (numS s7).2 = s' := ⟨_, rfl⟩
  obtain ⟨y7, hy7⟩ : ∃ y, (numS s7).1 % 4294967296 = y := ⟨_, rfl⟩
  obtain ⟨q7, hq7⟩ : ∃ q, (q6 || decide (4294967295 < (numS s7).1)) = q := ⟨_, rfl⟩
  have hC := wide_calls S7.out
  rw [hs8, hy7, hq7] at hC
  have yb7 : (y7 : Int) ≤ 4294967295 := by rw [← hy7]; omega
  have Y7 := hid hy7
  have Q7 := hid hq7
  clear hy7 hq7
  have HS8 := hid hs8
  clear hs8
  have HC := hid hC
  clear hC
  go_wp2_with fail
  refine HC.out.mono ?_
  rintro e v8 ⟨rfl, hS, hK⟩
  have S8 := hid hS
  have Z8 := hid (Z7.out.keep hK (by have := HG.out; have := HZ.out; simp; omega))
  have C8 := hid (C7.out.trans hK)
  clear hS hK HC
  have c2 := Z8.out.get 2 rfl
  have f2 := Z8.out.free 2
  have c3 := Z8.out.get 3 rfl
  have f3 := Z8.out.free 3
  have c4 := Z8.out.get 4 rfl
  have f4 := Z8.out.free 4
  have c5 := Z8.out.get 5 rfl
  have f5 := Z8.out.free 5
  have c6 := Z8.out.get 6 rfl
  have f6 := Z8.out.free 6
  have c7 := Z8.out.get 7 rfl
  have f7 := Z8.out.free 7
  replace S8 := hid (S8.out.other ((((((chg_setCell v8 gz 2 (.int .u32 (y2 : Int))).trans (chg_setCell (v8.setCell ⟨gz, 2, none⟩ (.int .u32 (y2 : Int))) gz 3 (.int .u32 (y3 : Int)))).trans (chg_setCell ((v8.setCell ⟨gz, 2, none⟩ (.int .u32 (y2 : Int))).setCell ⟨gz, 3, none⟩ (.int .u32 (y3 : Int))) gz 4 (.int .u32 (y4 : Int)))).trans (chg_setCell (((v8.setCell ⟨gz, 2, none⟩ (.int .u32 (y2 : Int))).setCell ⟨gz, 3, none⟩ (.int .u32 (y3 : Int))).setCell ⟨gz, 4, none⟩ (.int .u32 (y4 : Int))) gz 5 (.int .u32 (y5 : Int)))).trans (chg_setCell ((((v8.setCell ⟨gz, 2, none⟩ (.int .u32 (y2 : Int))).setCell ⟨gz, 3, none⟩ (.int .u32 (y3 : Int))).setCell ⟨gz, 4, none⟩ (.int .u32 (y4 : Int))).setCell ⟨gz, 5, none⟩ (.int .u32 (y5 : Int))) gz 6 (.int .u32 (y6 : Int)))).trans (chg_setCell (((((v8.setCell ⟨gz, 2, none⟩ (.int .u32 (y2 : Int))).setCell ⟨gz, 3, none⟩ (.int .u32 (y3 : Int))).setCell ⟨gz, 4, none⟩ (.int .u32 (y4 : Int))).setCell ⟨gz, 5, none⟩ (.int .u32 (y5 : Int))).setCell ⟨gz, 6, none⟩ (.int .u32 (y6 : Int))) gz 7 (.int .u32 (y7 : Int)))) (by have := HG.out; have := HZ.out; simp; omega))
  replace C8 := hid (C8.out.newer ((((((chg_setCell v8 gz 2 (.int .u32 (y2 : Int))).trans (chg_setCell (v8.setCell ⟨gz, 2, none⟩ (.int .u32 (y2 : Int))) gz 3 (.int .u32 (y3 : Int)))).trans (chg_setCell ((v8.setCell ⟨gz, 2, none⟩ (.int .u32 (y2 : Int))).setCell ⟨gz, 3, none⟩ (.int .u32 (y3 : Int))) gz 4 (.int .u32 (y4 : Int)))).trans (chg_setCell (((v8.setCell ⟨gz, 2, none⟩ (.int .u32 (y2 : Int))).setCell ⟨gz, 3, none⟩ (.int .u32 (y3 : Int))).setCell ⟨gz, 4, none⟩ (.int .u32 (y4 : Int))) gz 5 (.int .u32 (y5 : Int)))).trans (chg_setCell ((((v8.setCell ⟨gz, 2, none⟩ (.int .u32 (y2 : Int))).setCell ⟨gz, 3, none⟩ (.int .u32 (y3 : Int))).setCell ⟨gz, 4, none⟩ (.int .u32 (y4 : Int))).setCell ⟨gz, 5, none⟩ (.int .u32 (y5 : Int))) gz 6 (.int .u32 (y6 : Int)))).trans (chg_setCell (((((v8.setCell ⟨gz, 2, none⟩ (.int .u32 (y2 : Int))).setCell ⟨gz, 3, none⟩ (.int .u32 (y3 : Int))).setCell ⟨gz, 4, none⟩ (.int .u32 (y4 : Int))).setCell ⟨gz, 5, none⟩ (.int .u32 (y5 : Int))).setCell ⟨gz, 6, none⟩ (.int .u32 (y6 : Int))) gz 7 (.int .u32 (y7 : Int)))) (by have := HZ.out; simp; omega))
  replace Z8 := hid (show Blk ((((((v8.setCell ⟨gz, 2, none⟩ (.int .u32 (y2 : Int))).setCell ⟨gz, 3, none⟩ (.int .u32 (y3 : Int))).setCell ⟨gz, 4, none⟩ (.int .u32 (y4 : Int))).setCell ⟨gz, 5, none⟩ (.int .u32 (y5 : Int))).setCell ⟨gz, 6, none⟩ (.int .u32 (y6 : Int))).setCell ⟨gz, 7, none⟩ (.int .u32 (y7 : Int))) gz [(.int .u8 (y0 : Int)), (.int .u8 (y1 : Int)), (.int .u32 (y2 : Int)), (.int .u32 (y3 : Int)), (.int .u32 (y4 : Int)), (.int .u32 (y5 : Int)), (.int .u32 (y6 : Int)), (.int .u32 (y7 : Int)), .int .u8 0, .int .i64 0, .int .u32 0, .int .u32 0, .slice none 0 0] 25 from by simpa using ((((((Z8.out.set 2 (.int .u32 (y2 : Int))).set 3 (.int .u32 (y3 : Int))).set 4 (.int .u32 (y4 : Int))).set 5 (.int .u32 (y5 : Int))).set 6 (.int .u32 (y6 : Int))).set 7 (.int .u32 (y7 : Int))))
  obtain ⟨s9, hs9⟩ : ∃ s', (numS s8).2 = s' := ⟨_, rfl⟩
  obtain ⟨y8, hy8⟩ : ∃ y, (numS s8).1 % 256 = y := ⟨_, rfl⟩
  obtain ⟨q8, hq8⟩ : ∃ q, (q7 || decide (255 < (numS s8).1)) = q := ⟨_, rfl⟩
  have hC := small_calls S8.out
  rw [hs9, hy8, hq8] at hC
  have yb8 : (y8 : Int) ≤ 255 := by rw [← hy8]; omega
  have Y8 := hid hy8
  have Q8 := hid hq8
  clear hy8 hq8
  have HS9 := hid hs9
  clear hs9
  have HC := hid hC
  clear hC
  go_wp2_with fail
  generalize ((((((v8.setCell ⟨gz, 2, none⟩ (.int .u32 (y2 : Int))).setCell ⟨gz, 3, none⟩ (.int .u32 (y3 : Int))).setCell ⟨gz, 4, none⟩ (.int .u32 (y4 : Int))).setCell ⟨gz, 5, none⟩ (.int .u32 (y5 : Int))).setCell ⟨gz, 6, none⟩ (.int .u32 (y6 : Int))).setCell ⟨gz, 7, none⟩ (.int .u32 (y7 : Int))) = v8 at S8 Z8 C8 HC ⊢
  clear c2 f2 c3 f3 c4 f4 c5 f5 c6 f6 c7 f7
  refine HC.out.mono ?_
  rintro e v9 ⟨rfl, hS, hK⟩
  have S9 := hid hS
  have Z9 := hid (Z8.out.keep hK (by have := HG.out; have := HZ.out; simp; omega))
  have C9 := hid (C8.out.trans hK)
  clear hS hK HC
  obtain ⟨s10, hs10⟩ : ∃ s', (intS s9).2 = s' := ⟨_, rfl⟩
  obtain ⟨y9, hy9⟩ : ∃ y, (intS s9).1 = y := ⟨_, rfl⟩
  have hC := sc_int S9.out
  rw [hs10, hy9] at hC
  have Y9 := hid hy9
  clear hy9
  have HS10 := hid hs10
  clear hs10
  have HC := hid hC
  clear hC
  go_wp2_with fail
  refine HC.out.mono ?_
  rintro e v10 ⟨rfl, hS, hK⟩
  have S10 := hid hS
  have Z10 := hid (Z9.out.keep hK (by have := HG.out; have := HZ.out; simp; omega))
  have C10 := hid (C9.out.trans hK)
  clear hS hK HC
  obtain ⟨s11, hs11⟩ : ∃ s', (numS s10).2 = s' := ⟨_, rfl⟩
  obtain ⟨y10, hy10⟩ : ∃ y, (numS s10).1 % 4294967296 = y := ⟨_, rfl⟩
  obtain ⟨q10, hq10⟩ : ∃ q, (q8 || decide (4294967295 < (numS s10).1)) = q := ⟨_, rfl⟩
  have hC := wide_calls S10.out
  rw [hs11, hy10, hq10] at hC
  have yb10 : (y10 : Int) ≤ 4294967295 := by rw [← hy10]; omega
  have Y10 := hid hy10
  have Q10 := hid hq10
  clear hy10 hq10
  have HS11 := hid hs11
  clear hs11
  have HC := hid hC
  clear hC
  go_wp2_with fail
  refine HC.out.mono ?_
  rintro e v11 ⟨rfl, hS, hK⟩
  have S11 := hid hS
  have Z11 := hid (Z10.out.keep hK (by have := HG.out; have := HZ.out; simp; omega))
  have C11 := hid (C10.out.trans hK)
  clear hS hK HC
  obtain ⟨s12, hs12⟩ : ∃ s', (numS s11).2 = s' := ⟨_, rfl⟩
  obtain ⟨y11, hy11⟩ : ∃ y, (numS s11).1 % 4294967296 = y := ⟨_, rfl⟩
  obtain ⟨q11, hq11⟩ : ∃ q, (q10 || decide (4294967295 < (numS s11).1)) = q := ⟨_, rfl⟩
  have hC := wide_calls S11.out
  rw [hs12, hy11, hq11] at hC
  have yb11 : (y11 : Int) ≤ 4294967295 := by rw [← hy11]; omega
  have Y11 := hid hy11
  have Q11 := hid hq11
  clear hy11 hq11
  have HS12 := hid hs12
  clear hs12
  have HC := hid hC
  clear hC
  go_wp2_with fail
  refine HC.out.mono ?_
  rintro e v12 ⟨rfl, hS, hK⟩
  have S12 := hid hS
  have Z12 := hid (Z11.out.keep hK (by have := HG.out; have := HZ.out; simp; omega))
  have C12 := hid (C11.out.trans hK)
  clear hS hK HC
  obtain ⟨s13, hs13⟩ : ∃ s', (textS s12).2 = s' := ⟨_, rfl⟩
  obtain ⟨y12, hy12⟩ : ∃ y, (textS s12).1 = y := ⟨_, rfl⟩
  have hC := sc_text S12.out
  rw [hs13, hy12] at hC
  have Y12 := hid hy12
  clear hy12
  have HS13 := hid hs13
  clear hs13
  have HC := hid hC
  clear hC
  go_wp2_with fail
  refine HC.out.mono ?_
  rintro e v13 ⟨at', ct, rfl, hbt, hS, hK, hfresh⟩
  have S13 := hid hS
  have Z13 := hid (Z12.out.keep hK (by have := HG.out; have := HZ.out; simp; omega))
  have C13 := hid (C12.out.trans hK)
  have HT := hid hbt
  have HF := hid (fun x hx => Nat.le_trans C12.out.size (hfresh x hx))
  have HF2 := hid (fun x hx => Nat.lt_of_lt_of_le Z12.out.lt (hfresh x hx))
  have hml := hbt.max'
  clear hbt hfresh
  clear hS hK HC
  have c8 := Z13.out.get 8 rfl
  have f8 := Z13.out.free 8
  have c9 := Z13.out.get 9 rfl
  have f9 := Z13.out.free 9
  have c10 := Z13.out.get 10 rfl
  have f10 := Z13.out.free 10
  have c11 := Z13.out.get 11 rfl
  have f11 := Z13.out.free 11
  have c12 := Z13.out.get 12 rfl
  have f12 := Z13.out.free 12
  replace S13 := hid (S13.out.other (((((chg_setCell v13 gz 8 (.int .u8 (y8 : Int))).trans (chg_setCell (v13.setCell ⟨gz, 8, none⟩ (.int .u8 (y8 : Int))) gz 9 (.int .i64 (y9 : Int)))).trans (chg_setCell ((v13.setCell ⟨gz, 8, none⟩ (.int .u8 (y8 : Int))).setCell ⟨gz, 9, none⟩ (.int .i64 (y9 : Int))) gz 10 (.int .u32 (y10 : Int)))).trans (chg_setCell (((v13.setCell ⟨gz, 8, none⟩ (.int .u8 (y8 : Int))).setCell ⟨gz, 9, none⟩ (.int .i64 (y9 : Int))).setCell ⟨gz, 10, none⟩ (.int .u32 (y10 : Int))) gz 11 (.int .u32 (y11 : Int)))).trans (chg_setCell ((((v13.setCell ⟨gz, 8, none⟩ (.int .u8 (y8 : Int))).setCell ⟨gz, 9, none⟩ (.int .i64 (y9 : Int))).setCell ⟨gz, 10, none⟩ (.int .u32 (y10 : Int))).setCell ⟨gz, 11, none⟩ (.int .u32 (y11 : Int))) gz 12 (.slice at' y12.length ct))) (by have := HG.out; have := HZ.out; simp; omega))
  replace HT := hid (cs_chg HT.out (((((chg_setCell v13 gz 8 (.int .u8 (y8 : Int))).trans (chg_setCell (v13.setCell ⟨gz, 8, none⟩ (.int .u8 (y8 : Int))) gz 9 (.int .i64 (y9 : Int)))).trans (chg_setCell ((v13.setCell ⟨gz, 8, none⟩ (.int .u8 (y8 : Int))).setCell ⟨gz, 9, none⟩ (.int .i64 (y9 : Int))) gz 10 (.int .u32 (y10 : Int)))).trans (chg_setCell (((v13.setCell ⟨gz, 8, none⟩ (.int .u8 (y8 : Int))).setCell ⟨gz, 9, none⟩ (.int .i64 (y9 : Int))).setCell ⟨gz, 10, none⟩ (.int .u32 (y10 : Int))) gz 11 (.int .u32 (y11 : Int)))).trans (chg_setCell ((((v13.setCell ⟨gz, 8, none⟩ (.int .u8 (y8 : Int))).setCell ⟨gz, 9, none⟩ (.int .i64 (y9 : Int))).setCell ⟨gz, 10, none⟩ (.int .u32 (y10 : Int))).setCell ⟨gz, 11, none⟩ (.int .u32 (y11 : Int))) gz 12 (.slice at' y12.length ct))) (fun x hx hm => by have := HF2.out x hx; simp at hm; omega))
  replace C13 := hid (C13.out.newer (((((chg_setCell v13 gz 8 (.int .u8 (y8 : Int))).trans (chg_setCell (v13.setCell ⟨gz, 8, none⟩ (.int .u8 (y8 : Int))) gz 9 (.int .i64 (y9 : Int)))).trans (chg_setCell ((v13.setCell ⟨gz, 8, none⟩ (.int .u8 (y8 : Int))).setCell ⟨gz, 9, none⟩ (.int .i64 (y9 : Int))) gz 10 (.int .u32 (y10 : Int)))).trans (chg_setCell (((v13.setCell ⟨gz, 8, none⟩ (.int .u8 (y8 : Int))).setCell ⟨gz, 9, none⟩ (.int .i64 (y9 : Int))).setCell ⟨gz, 10, none⟩ (.int .u32 (y10 : Int))) gz 11 (.int .u32 (y11 : Int)))).trans (chg_setCell ((((v13.setCell ⟨gz, 8, none⟩ (.int .u8 (y8 : Int))).setCell ⟨gz, 9, none⟩ (.int .i64 (y9 : Int))).setCell ⟨gz, 10, none⟩ (.int .u32 (y10 : Int))).setCell ⟨gz, 11, none⟩ (.int .u32 (y11 : Int))) gz 12 (.slice at' y12.length ct))) (by have := HZ.out; simp; omega))
  replace Z13 := hid (show Blk (((((v13.setCell ⟨gz, 8, none⟩ (.int .u8 (y8 : Int))).setCell ⟨gz, 9, none⟩ (.int .i64 (y9 : Int))).setCell ⟨gz, 10, none⟩ (.int .u32 (y10 : Int))).setCell ⟨gz, 11, none⟩ (.int .u32 (y11 : Int))).setCell ⟨gz, 12, none⟩ (.slice at' y12.length ct)) gz [(.int .u8 (y0 : Int)), (.int .u8 (y1 : Int)), (.int .u32 (y2 : Int)), (.int .u32 (y3 : Int)), (.int .u32 (y4 : Int)), (.int .u32 (y5 : Int)), (.int .u32 (y6 : Int)), (.int .u32 (y7 : Int)), (.int .u8 (y8 : Int)), (.int .i64 (y9 : Int)), (.int .u32 (y10 : Int)), (.int .u32 (y11 : Int)), (.slice at' y12.length ct)] 25 from by simpa using (((((Z13.out.set 8 (.int .u8 (y8 : Int))).set 9 (.int .i64 (y9 : Int))).set 10 (.int .u32 (y10 : Int))).set 11 (.int .u32 (y11 : Int))).set 12 (.slice at' y12.length ct)))
  go_upto_region 5 with fail
  generalize (((((v13.setCell ⟨gz, 8, none⟩ (.int .u8 (y8 : Int))).setCell ⟨gz, 9, none⟩ (.int .i64 (y9 : Int))).setCell ⟨gz, 10, none⟩ (.int .u32 (y10 : Int))).setCell ⟨gz, 11, none⟩ (.int .u32 (y11 : Int))).setCell ⟨gz, 12, none⟩ (.slice at' y12.length ct)) = vL at S13 Z13 C13 HT ⊢
  clear c8 f8 c9 f9 c10 f10 c11 f11 c12 f12
  go_step
  refine wpList_load_blk (o := ⟨some 34, _, _, _, _, _⟩) 25 (.tmp 3) rfl rfl gz [(.int .u8 (y0 : Int)), (.int .u8 (y1 : Int)), (.int .u32 (y2 : Int)), (.int .u32 (y3 : Int)), (.int .u32 (y4 : Int)), (.int .u32 (y5 : Int)), (.int .u32 (y6 : Int)), (.int .u32 (y7 : Int)), (.int .u8 (y8 : Int)), (.int .i64 (y9 : Int)), (.int .u32 (y10 : Int)), (.int .u32 (y11 : Int)), (.slice at' y12.length ct)] _ rfl Z13.out ⟨_, Tryd.underlying25, rfl⟩ (by kernel_rfl) ?_
  refine wpList_store_blk (o := ⟨none, _, 0, _, _, _⟩) 25 (.tmp 3) (.tmp 34) rfl rfl gz [(.int .u8 (y0 : Int)), (.int .u8 (y1 : Int)), (.int .u32 (y2 : Int)), (.int .u32 (y3 : Int)), (.int .u32 (y4 : Int)), (.int .u32 (y5 : Int)), (.int .u32 (y6 : Int)), (.int .u32 (y7 : Int)), (.int .u8 (y8 : Int)), (.int .i64 (y9 : Int)), (.int .u32 (y10 : Int)), (.int .u32 (y11 : Int)), (.slice at' y12.length ct)] [(.int .u8 (y0 : Int)), (.int .u8 (y1 : Int)), (.int .u32 (y2 : Int)), (.int .u32 (y3 : Int)), (.int .u32 (y4 : Int)), (.int .u32 (y5 : Int)), (.int .u32 (y6 : Int)), (.int .u32 (y7 : Int)), (.int .u8 (y8 : Int)), (.int .i64 (y9 : Int)), (.int .u32 (y10 : Int)), (.int .u32 (y11 : Int)), (.slice at' y12.length ct)] _ rfl rfl Z13.out rfl (by kernel_rfl) (by simp [Value.oneCell']) ?_
  intro vE hZ hE
  repeat go_step
  have SE := S13.out.other hE (by have := HG.out; have := HZ.out; simp; omega)
  have CE := C13.out.newer hE (by have := HZ.out; simp; omega)
  have TE := cs_chg HT.out hE (fun x hx hm => by have := HF2.out x hx; simp at hm; omega)
  have hrd : rdnote s0 = (⟨y0, y1, y2, y3, y4, y5, y6, y7, y8, (y9 : Int), y10, y11, y12⟩, q11, s13) := by
    simp only [rdnote, HS1.out, HS2.out, HS3.out, HS4.out, HS5.out, HS6.out, HS7.out, HS8.out, HS9.out, HS10.out, HS11.out, HS12.out, HS13.out, Y0.out, Y1.out, Y2.out, Y3.out, Y4.out, Y5.out, Y6.out, Y7.out, Y8.out, Y9.out, Y10.out, Y11.out, Y12.out, Q0.out, Q1.out, Q2.out, Q3.out, Q4.out, Q5.out, Q6.out, Q7.out, Q8.out, Q10.out, Q11.out]
  refine bodyPost_ret (v := .agg [(.int .u8 (y0 : Int)), (.int .u8 (y1 : Int)), (.int .u32 (y2 : Int)), (.int .u32 (y3 : Int)), (.int .u32 (y4 : Int)), (.int .u32 (y5 : Int)), (.int .u32 (y6 : Int)), (.int .u32 (y7 : Int)), (.int .u8 (y8 : Int)), (.int .i64 (y9 : Int)), (.int .u32 (y10 : Int)), (.int .u32 (y11 : Int)), (.slice at' y12.length ct)].toArray) (results_blk rfl _ gz [(.int .u8 (y0 : Int)), (.int .u8 (y1 : Int)), (.int .u32 (y2 : Int)), (.int .u32 (y3 : Int)), (.int .u32 (y4 : Int)), (.int .u32 (y5 : Int)), (.int .u32 (y6 : Int)), (.int .u32 (y7 : Int)), (.int .u8 (y8 : Int)), (.int .i64 (y9 : Int)), (.int .u32 (y10 : Int)), (.int .u32 (y11 : Int)), (.slice at' y12.length ct)] _ rfl hZ ⟨_, Tryd.underlying25, rfl⟩ (by kernel_rfl)) rfl ?_
  unfold RdnoteTo
  rw [hrd]
  exact ⟨_, rfl, ⟨at', ct, rfl, TE, fun x hx => HF.out x hx⟩, SE, CE⟩

/-- what is read -/
def rdreq (s0 : St) : ReqD × Bool × St :=
  let x0 := numS s0
  let s1 := x0.2
  let x1 := numS s1
  let s2 := x1.2
  let x2 := numS s2
  let s3 := x2.2
  let x3 := numS s3
  let s4 := x3.2
  let x4 := intS s4
  let s5 := x4.2
  let x5 := intS s5
  let s6 := x5.2
  let x6 := numS s6
  let s7 := x6.2
  (⟨x0.1 % 256, x1.1 % 4294967296, x2.1 % 256, x3.1 % 256, (x4.1 : Int), (x5.1 : Int), x6.1 % 4294967296⟩, (((((false || decide (255 < x0.1)) || decide (4294967295 < x1.1)) || decide (255 < x2.1)) || decide (255 < x3.1)) || decide (4294967295 < x6.1)), s7)

def RdreqTo (w0 w : World) (g gs : Nat) (s0 : St) : Ending → World → Prop := fun e w' => e = .returned (.agg (reqV (rdreq s0).1).toArray) ∧ ScB w0 g gs (rdreq s0).2.2 (rdreq s0).2.1 w' ∧ Chg [g, gs] w w'

set_option maxRecDepth 100000 in
set_option maxHeartbeats 4000000 in
theorem reqRead1_calls {w0 w : World} {g gs : Nat} (s0 : St) (pv : Value) (he : EyeAt w w0.heap.size g s0.1 s0.2) (hs : Blk w gs [pv, .bool false] 86) (hc : Chg [gs] w0 w) (hlt : gs < w0.heap.size) (hl : s0.1.length ≤ 100000) :
    Calls Tryd.prog 58 #[.pointer (some ⟨g, 0, none⟩), .pointer (some ⟨gs, 0, none⟩)] w (RdreqTo w0 w g gs s0) := by
  have c0 := hs.get 0 rfl
  have f0 := hs.free 0
  have hg : gs < g ∧ g < w.heap.size := by obtain ⟨_, _, h1⟩ := he; exact ⟨Nat.lt_of_lt_of_le hlt h1.ge, h1.own.lt⟩
  have hgs : gs < w.heap.size := by omega
  have HG := hid hg
  have hsz : (w.setCell ⟨gs, 0, none⟩ (.pointer (some ⟨g, 0, none⟩))).heap.size = w.heap.size := by simp
  have hk := chg_setCell w gs 0 (.pointer (some ⟨g, 0, none⟩))
  have hb := below_alloc (w.setCell ⟨gs, 0, none⟩ (.pointer (some ⟨g, 0, none⟩))) (.cells #[.int .u8 0, .int .u32 0, .int .u8 0, .int .u8 0, .int .i64 0, .int .i64 0, .int .u32 0] 43)
  have S0 := hid (show ScB w0 g gs s0 false ((w.setCell ⟨gs, 0, none⟩ (.pointer (some ⟨g, 0, none⟩))).alloc (.cells #[.int .u8 0, .int .u32 0, .int .u8 0, .int .u8 0, .int .i64 0, .int .i64 0, .int .u32 0] 43)) from
    ScB.below ⟨he.keep hk (fun k hk => by simp at hk; omega), by simpa using hs.set 0 (.pointer (some ⟨g, 0, none⟩)), hc.trans hk, hlt, hl⟩ hb)
  have Z0 := hid (show Blk ((w.setCell ⟨gs, 0, none⟩ (.pointer (some ⟨g, 0, none⟩))).alloc (.cells #[.int .u8 0, .int .u32 0, .int .u8 0, .int .u8 0, .int .i64 0, .int .i64 0, .int .u32 0] 43)) w.heap.size [.int .u8 0, .int .u32 0, .int .u8 0, .int .u8 0, .int .i64 0, .int .i64 0, .int .u32 0] 43 from by
    have := blk_alloc (w.setCell ⟨gs, 0, none⟩ (.pointer (some ⟨g, 0, none⟩))) [.int .u8 0, .int .u32 0, .int .u8 0, .int .u8 0, .int .i64 0, .int .i64 0, .int .u32 0] 43
    rw [hsz] at this
    exact this)
  have C0 := hid (show Chg [g, gs] w ((w.setCell ⟨gs, 0, none⟩ (.pointer (some ⟨g, 0, none⟩))).alloc (.cells #[.int .u8 0, .int .u32 0, .int .u8 0, .int .u8 0, .int .i64 0, .int .i64 0, .int .u32 0] 43)) from
    (hk.mono (by simp)).trans (Chg.of_below _ hb))
  clear hk hb hsz
  obtain ⟨gz, hgz⟩ : ∃ gz, w.heap.size = gz := ⟨_, rfl⟩
  have HZ := hid hgz
  rw [hgz] at Z0
  clear hs he hc hl hg hgz
  go_enter Tryd.func58, Tryd.ntmps58
  go_wp2_with fail
  generalize ((w.setCell ⟨gs, 0, none⟩ (.pointer (some ⟨g, 0, none⟩))).alloc (.cells #[.int .u8 0, .int .u32 0, .int .u8 0, .int .u8 0, .int .i64 0, .int .i64 0, .int .u32 0] 43)) = v0 at S0 Z0 C0 ⊢
  clear c0 f0 hgs
  rw [HZ.out]
  obtain ⟨s1, hs1⟩ : ∃ s', (numS s0).2 = s' := ⟨_, rfl⟩
  obtain ⟨y0, hy0⟩ : ∃ y, (numS s0).1 % 256 = y := ⟨_, rfl⟩
  obtain ⟨q0, hq0⟩ : ∃ q, (false || decide (255 < (numS s0).1)) = q := ⟨_, rfl⟩
  have hC := small_calls S0.out
  rw [hs1, hy0, hq0] at hC
  have yb0 : (y0 : Int) ≤ 255 := by rw [← hy0]; omega
  have Y0 := hid hy0
  have Q0 := hid hq0
  clear hy0 hq0
  have HS1 := hid hs1
  clear hs1
  have HC := hid hC
  clear hC
  refine HC.out.mono ?_
  rintro e v1 ⟨rfl, hS, hK⟩
  have S1 := hid hS
  have Z1 := hid (Z0.out.keep hK (by have := HG.out; have := HZ.out; simp; omega))
  have C1 := hid (C0.out.trans hK)
  clear hS hK HC
  obtain ⟨s2, hs2⟩ : ∃ s', (numS s1).2 = s' := ⟨_, rfl⟩
  obtain ⟨y1, hy1⟩ : ∃ y, (numS s1).1 % 4294967296 = y := ⟨_, rfl⟩
  obtain ⟨q1, hq1⟩ : ∃ q, (q0 || decide (4294967295 < (numS s1).1)) = q := ⟨_, rfl⟩
  have hC := wide_calls S1.out
  rw [hs2, hy1, hq1] at hC
  have yb1 : (y1 : Int) ≤ 4294967295 := by rw [← hy1]; omega
  have Y1 := hid hy1
  have Q1 := hid hq1
  clear hy1 hq1
  have HS2 := hid hs2
  clear hs2
  have HC := hid hC
  clear hC
  go_wp2_with fail
  refine HC.out.mono ?_
  rintro e v2 ⟨rfl, hS, hK⟩
  have S2 := hid hS
  have Z2 := hid (Z1.out.keep hK (by have := HG.out; have := HZ.out; simp; omega))
  have C2 := hid (C1.out.trans hK)
  clear hS hK HC
  obtain ⟨s3, hs3⟩ : ∃ s', (numS s2).2 = s' := ⟨_, rfl⟩
  obtain ⟨y2, hy2⟩ : ∃ y, (numS s2).1 % 256 = y := ⟨_, rfl⟩
  obtain ⟨q2, hq2⟩ : ∃ q, (q1 || decide (255 < (numS s2).1)) = q := ⟨_, rfl⟩
  have hC := small_calls S2.out
  rw [hs3, hy2, hq2] at hC
  have yb2 : (y2 : Int) ≤ 255 := by rw [← hy2]; omega
  have Y2 := hid hy2
  have Q2 := hid hq2
  clear hy2 hq2
  have HS3 := hid hs3
  clear hs3
  have HC := hid hC
  clear hC
  go_wp2_with fail
  refine HC.out.mono ?_
  rintro e v3 ⟨rfl, hS, hK⟩
  have S3 := hid hS
  have Z3 := hid (Z2.out.keep hK (by have := HG.out; have := HZ.out; simp; omega))
  have C3 := hid (C2.out.trans hK)
  clear hS hK HC
  obtain ⟨s4, hs4⟩ : ∃ s', (numS s3).2 = s' := ⟨_, rfl⟩
  obtain ⟨y3, hy3⟩ : ∃ y, (numS s3).1 % 256 = y := ⟨_, rfl⟩
  obtain ⟨q3, hq3⟩ : ∃ q, (q2 || decide (255 < (numS s3).1)) = q := ⟨_, rfl⟩
  have hC := small_calls S3.out
  rw [hs4, hy3, hq3] at hC
  have yb3 : (y3 : Int) ≤ 255 := by rw [← hy3]; omega
  have Y3 := hid hy3
  have Q3 := hid hq3
  clear hy3 hq3
  have HS4 := hid hs4
  clear hs4
  have HC := hid hC
  clear hC
  go_wp2_with fail
  refine HC.out.mono ?_
  rintro e v4 ⟨rfl, hS, hK⟩
  have S4 := hid hS
  have Z4 := hid (Z3.out.keep hK (by have := HG.out; have := HZ.out; simp; omega))
  have C4 := hid (C3.out.trans hK)
  clear hS hK HC
  have c0 := Z4.out.get 0 rfl
  have f0 := Z4.out.free 0
  have c1 := Z4.out.get 1 rfl
  have f1 := Z4.out.free 1
  have c2 := Z4.out.get 2 rfl
  have f2 := Z4.out.free 2
  have c3 := Z4.out.get 3 rfl
  have f3 := Z4.out.free 3
  replace S4 := hid (S4.out.other ((((chg_setCell v4 gz 0 (.int .u8 (y0 : Int))).trans (chg_setCell (v4.setCell ⟨gz, 0, none⟩ (.int .u8 (y0 : Int))) gz 1 (.int .u32 (y1 : Int)))).trans (chg_setCell ((v4.setCell ⟨gz, 0, none⟩ (.int .u8 (y0 : Int))).setCell ⟨gz, 1, none⟩ (.int .u32 (y1 : Int))) gz 2 (.int .u8 (y2 : Int)))).trans (chg_setCell (((v4.setCell ⟨gz, 0, none⟩ (.int .u8 (y0 : Int))).setCell ⟨gz, 1, none⟩ (.int .u32 (y1 : Int))).setCell ⟨gz, 2, none⟩ (.int .u8 (y2 : Int))) gz 3 (.int .u8 (y3 : Int)))) (by have := HG.out; have := HZ.out; simp; omega))
  replace C4 := hid (C4.out.newer ((((chg_setCell v4 gz 0 (.int .u8 (y0 : Int))).trans (chg_setCell (v4.setCell ⟨gz, 0, none⟩ (.int .u8 (y0 : Int))) gz 1 (.int .u32 (y1 : Int)))).trans (chg_setCell ((v4.setCell ⟨gz, 0, none⟩ (.int .u8 (y0 : Int))).setCell ⟨gz, 1, none⟩ (.int .u32 (y1 : Int))) gz 2 (.int .u8 (y2 : Int)))).trans (chg_setCell (((v4.setCell ⟨gz, 0, none⟩ (.int .u8 (y0 : Int))).setCell ⟨gz, 1, none⟩ (.int .u32 (y1 : Int))).setCell ⟨gz, 2, none⟩ (.int .u8 (y2 : Int))) gz 3 (.int .u8 (y3 : Int)))) (by have := HZ.out; simp; omega))
  replace Z4 := hid (show Blk ((((v4.setCell ⟨gz, 0, none⟩ (.int .u8 (y0 : Int))).setCell ⟨gz, 1, none⟩ (.int .u32 (y1 : Int))).setCell ⟨gz, 2, none⟩ (.int .u8 (y2 : Int))).setCell ⟨gz, 3, none⟩ (.int .u8 (y3 : Int))) gz [(.int .u8 (y0 : Int)), (.int .u32 (y1 : Int)), (.int .u8 (y2 : Int)), (.int .u8 (y3 : Int)), .int .i64 0, .int .i64 0, .int .u32 0] 43 from by simpa using ((((Z4.out.set 0 (.int .u8 (y0 : Int))).set 1 (.int .u32 (y1 : Int))).set 2 (.int .u8 (y2 : Int))).set 3 (.int .u8 (y3 : Int))))
  obtain ⟨s5, hs5⟩ : ∃ s', (intS s4).2 = s' := ⟨_, rfl⟩
  obtain ⟨y4, hy4⟩ : ∃ y, (intS s4).1 = y := ⟨_, rfl⟩
  have hC := sc_int S4.out
  rw [hs5, hy4] at hC
  have Y4 := hid hy4
  clear hy4
  have HS5 := hid hs5
  clear hs5
  have HC := hid hC
  clear hC
  go_wp2_with fail
  generalize ((((v4.setCell ⟨gz, 0, none⟩ (.int .u8 (y0 : Int))).setCell ⟨gz, 1, none⟩ (.int .u32 (y1 : Int))).setCell ⟨gz, 2, none⟩ (.int .u8 (y2 : Int))).setCell ⟨gz, 3, none⟩ (.int .u8 (y3 : Int))) = v4 at S4 Z4 C4 HC ⊢
  clear c0 f0 c1 f1 c2 f2 c3 f3
  refine HC.out.mono ?_
  rintro e v5 ⟨rfl, hS, hK⟩
  have S5 := hid hS
  have Z5 := hid (Z4.out.keep hK (by have := HG.out; have := HZ.out; simp; omega))
  have C5 := hid (C4.out.trans hK)
  clear hS hK HC
  obtain ⟨s6, hs6⟩ : ∃ s', (intS s5).2 = s' := ⟨_, rfl⟩
  obtain ⟨y5, hy5⟩ : ∃ y, (intS s5).1 = y := ⟨_, rfl⟩
  have hC := sc_int S5.out
  rw [hs6, hy5] at hC
  have Y5 := hid hy5
  clear hy5
  have HS6 := hid hs6
  clear hs6
  have HC := hid hC
  clear hC
  go_wp2_with fail
  refine HC.out.mono ?_
  rintro e v6 ⟨rfl, hS, hK⟩
  have S6 := hid hS
  have Z6 := hid (Z5.out.keep hK (by have := HG.out; have := HZ.out; simp; omega))
  have C6 := hid (C5.out.trans hK)
  clear hS hK HC
  obtain ⟨s7, hs7⟩ : ∃ s', (numS s6).2 = s' := ⟨_, rfl⟩
  obtain ⟨y6, hy6⟩ : ∃ y, (numS s6).1 % 4294967296 = y := ⟨_, rfl⟩
  obtain ⟨q6, hq6⟩ : ∃ q, (q3 || decide (4294967295 < (numS s6).1)) = q := ⟨_, rfl⟩
  have hC := wide_calls S6.out
  rw [hs7, hy6, hq6] at hC
  have yb6 : (y6 : Int) ≤ 4294967295 := by rw [← hy6]; omega
  have Y6 := hid hy6
  have Q6 := hid hq6
  clear hy6 hq6
  have HS7 := hid hs7
  clear hs7
  have HC := hid hC
  clear hC
  go_wp2_with fail
  refine HC.out.mono ?_
  rintro e v7 ⟨rfl, hS, hK⟩
  have S7 := hid hS
  have Z7 := hid (Z6.out.keep hK (by have := HG.out; have := HZ.out; simp; omega))
  have C7 := hid (C6.out.trans hK)
  clear hS hK HC
  have c4 := Z7.out.get 4 rfl
  have f4 := Z7.out.free 4
  have c5 := Z7.out.get 5 rfl
  have f5 := Z7.out.free 5
  have c6 := Z7.out.get 6 rfl
  have f6 := Z7.out.free 6
  replace S7 := hid (S7.out.other (((chg_setCell v7 gz 4 (.int .i64 (y4 : Int))).trans (chg_setCell (v7.setCell ⟨gz, 4, none⟩ (.int .i64 (y4 : Int))) gz 5 (.int .i64 (y5 : Int)))).trans (chg_setCell ((v7.setCell ⟨gz, 4, none⟩ (.int .i64 (y4 : Int))).setCell ⟨gz, 5, none⟩ (.int .i64 (y5 : Int))) gz 6 (.int .u32 (y6 : Int)))) (by have := HG.out; have := HZ.out; simp; omega))
  replace C7 := hid (C7.out.newer (((chg_setCell v7 gz 4 (.int .i64 (y4 : Int))).trans (chg_setCell (v7.setCell ⟨gz, 4, none⟩ (.int .i64 (y4 : Int))) gz 5 (.int .i64 (y5 : Int)))).trans (chg_setCell ((v7.setCell ⟨gz, 4, none⟩ (.int .i64 (y4 : Int))).setCell ⟨gz, 5, none⟩ (.int .i64 (y5 : Int))) gz 6 (.int .u32 (y6 : Int)))) (by have := HZ.out; simp; omega))
  replace Z7 := hid (show Blk (((v7.setCell ⟨gz, 4, none⟩ (.int .i64 (y4 : Int))).setCell ⟨gz, 5, none⟩ (.int .i64 (y5 : Int))).setCell ⟨gz, 6, none⟩ (.int .u32 (y6 : Int))) gz [(.int .u8 (y0 : Int)), (.int .u32 (y1 : Int)), (.int .u8 (y2 : Int)), (.int .u8 (y3 : Int)), (.int .i64 (y4 : Int)), (.int .i64 (y5 : Int)), (.int .u32 (y6 : Int))] 43 from by simpa using (((Z7.out.set 4 (.int .i64 (y4 : Int))).set 5 (.int .i64 (y5 : Int))).set 6 (.int .u32 (y6 : Int))))
  go_upto_region 4 with fail
  generalize (((v7.setCell ⟨gz, 4, none⟩ (.int .i64 (y4 : Int))).setCell ⟨gz, 5, none⟩ (.int .i64 (y5 : Int))).setCell ⟨gz, 6, none⟩ (.int .u32 (y6 : Int))) = vL at S7 Z7 C7 ⊢
  clear c4 f4 c5 f5 c6 f6
  go_step
  refine wpList_load_blk (o := ⟨some 22, _, _, _, _, _⟩) 43 (.tmp 3) rfl rfl gz [(.int .u8 (y0 : Int)), (.int .u32 (y1 : Int)), (.int .u8 (y2 : Int)), (.int .u8 (y3 : Int)), (.int .i64 (y4 : Int)), (.int .i64 (y5 : Int)), (.int .u32 (y6 : Int))] _ rfl Z7.out ⟨_, Tryd.underlying43, rfl⟩ (by kernel_rfl) ?_
  refine wpList_store_blk (o := ⟨none, _, 0, _, _, _⟩) 43 (.tmp 3) (.tmp 22) rfl rfl gz [(.int .u8 (y0 : Int)), (.int .u32 (y1 : Int)), (.int .u8 (y2 : Int)), (.int .u8 (y3 : Int)), (.int .i64 (y4 : Int)), (.int .i64 (y5 : Int)), (.int .u32 (y6 : Int))] [(.int .u8 (y0 : Int)), (.int .u32 (y1 : Int)), (.int .u8 (y2 : Int)), (.int .u8 (y3 : Int)), (.int .i64 (y4 : Int)), (.int .i64 (y5 : Int)), (.int .u32 (y6 : Int))] _ rfl rfl Z7.out rfl (by kernel_rfl) (by simp [Value.oneCell']) ?_
  intro vE hZ hE
  repeat go_step
  have SE := S7.out.other hE (by have := HG.out; have := HZ.out; simp; omega)
  have CE := C7.out.newer hE (by have := HZ.out; simp; omega)
  have hrd : rdreq s0 = (⟨y0, y1, y2, y3, (y4 : Int), (y5 : Int), y6⟩, q6, s7) := by
    simp only [rdreq, HS1.out, HS2.out, HS3.out, HS4.out, HS5.out, HS6.out, HS7.out, Y0.out, Y1.out, Y2.out, Y3.out, Y4.out, Y5.out, Y6.out, Q0.out, Q1.out, Q2.out, Q3.out, Q6.out]
  refine bodyPost_ret (v := .agg [(.int .u8 (y0 : Int)), (.int .u32 (y1 : Int)), (.int .u8 (y2 : Int)), (.int .u8 (y3 : Int)), (.int .i64 (y4 : Int)), (.int .i64 (y5 : Int)), (.int .u32 (y6 : Int))].toArray) (results_blk rfl _ gz [(.int .u8 (y0 : Int)), (.int .u32 (y1 : Int)), (.int .u8 (y2 : Int)), (.int .u8 (y3 : Int)), (.int .i64 (y4 : Int)), (.int .i64 (y5 : Int)), (.int .u32 (y6 : Int))] _ rfl hZ ⟨_, Tryd.underlying43, rfl⟩ (by kernel_rfl)) rfl ?_
  unfold RdreqTo
  rw [hrd]
  exact ⟨rfl, SE, CE⟩

/-- what is read -/
def rdrep (s0 : St) : RepD × Bool × St :=
  let x0 := numS s0
  let s1 := x0.2
  let x1 := numS s1
  let s2 := x1.2
  let x2 := intS s2
  let s3 := x2.2
  let x3 := numS s3
  let s4 := x3.2
  let x4 := numS s4
  let s5 := x4.2
  let x5 := intS s5
  let s6 := x5.2
  (⟨x0.1 % 256, x1.1 % 4294967296, (x2.1 : Int), x3.1 % 4294967296, x4.1 % 256, (x5.1 : Int)⟩, ((((false || decide (255 < x0.1)) || decide (4294967295 < x1.1)) || decide (4294967295 < x3.1)) || decide (255 < x4.1)), s6)

def RdrepTo (w0 w : World) (g gs : Nat) (s0 : St) : Ending → World → Prop := fun e w' => e = .returned (.agg (repV (rdrep s0).1).toArray) ∧ ScB w0 g gs (rdrep s0).2.2 (rdrep s0).2.1 w' ∧ Chg [g, gs] w w'

set_option maxRecDepth 100000 in
set_option maxHeartbeats 4000000 in
theorem repRead1_calls {w0 w : World} {g gs : Nat} (s0 : St) (pv : Value) (he : EyeAt w w0.heap.size g s0.1 s0.2) (hs : Blk w gs [pv, .bool false] 86) (hc : Chg [gs] w0 w) (hlt : gs < w0.heap.size) (hl : s0.1.length ≤ 100000) :
    Calls Tryd.prog 61 #[.pointer (some ⟨g, 0, none⟩), .pointer (some ⟨gs, 0, none⟩)] w (RdrepTo w0 w g gs s0) := by
  have c0 := hs.get 0 rfl
  have f0 := hs.free 0
  have hg : gs < g ∧ g < w.heap.size := by obtain ⟨_, _, h1⟩ := he; exact ⟨Nat.lt_of_lt_of_le hlt h1.ge, h1.own.lt⟩
  have hgs : gs < w.heap.size := by omega
  have HG := hid hg
  have hsz : (w.setCell ⟨gs, 0, none⟩ (.pointer (some ⟨g, 0, none⟩))).heap.size = w.heap.size := by simp
  have hk := chg_setCell w gs 0 (.pointer (some ⟨g, 0, none⟩))
  have hb := below_alloc (w.setCell ⟨gs, 0, none⟩ (.pointer (some ⟨g, 0, none⟩))) (.cells #[.int .u8 0, .int .u32 0, .int .i64 0, .int .u32 0, .int .u8 0, .int .i64 0] 45)
  have S0 := hid (show ScB w0 g gs s0 false ((w.setCell ⟨gs, 0, none⟩ (.pointer (some ⟨g, 0, none⟩))).alloc (.cells #[.int .u8 0, .int .u32 0, .int .i64 0, .int .u32 0, .int .u8 0, .int .i64 0] 45)) from
    ScB.below ⟨he.keep hk (fun k hk => by simp at hk; omega), by simpa using hs.set 0 (.pointer (some ⟨g, 0, none⟩)), hc.trans hk, hlt, hl⟩ hb)
  have Z0 := hid (show Blk ((w.setCell ⟨gs, 0, none⟩ (.pointer (some ⟨g, 0, none⟩))).alloc (.cells #[.int .u8 0, .int .u32 0, .int .i64 0, .int .u32 0, .int .u8 0, .int .i64 0] 45)) w.heap.size [.int .u8 0, .int .u32 0, .int .i64 0, .int .u32 0, .int .u8 0, .int .i64 0] 45 from by
    have := blk_alloc (w.setCell ⟨gs, 0, none⟩ (.pointer (some ⟨g, 0, none⟩))) [.int .u8 0, .int .u32 0, .int .i64 0, .int .u32 0, .int .u8 0, .int .i64 0] 45
    rw [hsz] at this
    exact this)
  have C0 := hid (show Chg [g, gs] w ((w.setCell ⟨gs, 0, none⟩ (.pointer (some ⟨g, 0, none⟩))).alloc (.cells #[.int .u8 0, .int .u32 0, .int .i64 0, .int .u32 0, .int .u8 0, .int .i64 0] 45)) from
    (hk.mono (by simp)).trans (Chg.of_below _ hb))
  clear hk hb hsz
  obtain ⟨gz, hgz⟩ : ∃ gz, w.heap.size = gz := ⟨_, rfl⟩
  have HZ := hid hgz
  rw [hgz] at Z0
  clear hs he hc hl hg hgz
  go_enter Tryd.func61, Tryd.ntmps61
  go_wp2_with fail
  generalize ((w.setCell ⟨gs, 0, none⟩ (.pointer (some ⟨g, 0, none⟩))).alloc (.cells #[.int .u8 0, .int .u32 0, .int .i64 0, .int .u32 0, .int .u8 0, .int .i64 0] 45)) = v0 at S0 Z0 C0 ⊢
  clear c0 f0 hgs
  rw [HZ.out]
  obtain ⟨s1, hs1⟩ : ∃ s', (numS s0).2 = s' := ⟨_, rfl⟩
  obtain ⟨y0, hy0⟩ : ∃ y, (numS s0).1 % 256 = y := ⟨_, rfl⟩
  obtain ⟨q0, hq0⟩ : ∃ q, (false || decide (255 < (numS s0).1)) = q := ⟨_, rfl⟩
  have hC := small_calls S0.out
  rw [hs1, hy0, hq0] at hC
  have yb0 : (y0 : Int) ≤ 255 := by rw [← hy0]; omega
  have Y0 := hid hy0
  have Q0 := hid hq0
  clear hy0 hq0
  have HS1 := hid hs1
  clear hs1
  have HC := hid hC
  clear hC
  refine HC.out.mono ?_
  rintro e v1 ⟨rfl, hS, hK⟩
  have S1 := hid hS
  have Z1 := hid (Z0.out.keep hK (by have := HG.out; have := HZ.out; simp; omega))
  have C1 := hid (C0.out.trans hK)
  clear hS hK HC
  obtain ⟨s2, hs2⟩ : ∃ s', (numS s1).2 = s' := ⟨_, rfl⟩
  obtain ⟨y1, hy1⟩ : ∃ y, (numS s1).1 % 4294967296 = y := ⟨_, rfl⟩
  obtain ⟨q1, hq1⟩ : ∃ q, (q0 || decide (4294967295 < (numS s1).1)) = q := ⟨_, rfl⟩
  have hC := wide_calls S1.out
  rw [hs2, hy1, hq1] at hC
  have yb1 : (y1 : Int) ≤ 4294967295 := by rw [← hy1]; omega
  have Y1 := hid hy1
  have Q1 := hid hq1
  clear hy1 hq1
  have HS2 := hid hs2
  clear hs2
  have HC := hid hC
  clear hC
  go_wp2_with fail
  refine HC.out.mono ?_
  rintro e v2 ⟨rfl, hS, hK⟩
  have S2 := hid hS
  have Z2 := hid (Z1.out.keep hK (by have := HG.out; have := HZ.out; simp; omega))
  have C2 := hid (C1.out.trans hK)
  clear hS hK HC
  obtain ⟨s3, hs3⟩ : ∃ s', (intS s2).2 = s' := ⟨_, rfl⟩
  obtain ⟨y2, hy2⟩ : ∃ y, (intS s2).1 = y := ⟨_, rfl⟩
  have hC := sc_int S2.out
  rw [hs3, hy2] at hC
  have Y2 := hid hy2
  clear hy2
  have HS3 := hid hs3
  clear hs3
  have HC := hid hC
  clear hC
  go_wp2_with fail
  refine HC.out.mono ?_
  rintro e v3 ⟨rfl, hS, hK⟩
  have S3 := hid hS
  have Z3 := hid (Z2.out.keep hK (by have := HG.out; have := HZ.out; simp; omega))
  have C3 := hid (C2.out.trans hK)
  clear hS hK HC
  have c0 := Z3.out.get 0 rfl
  have f0 := Z3.out.free 0
  have c1 := Z3.out.get 1 rfl
  have f1 := Z3.out.free 1
  have c2 := Z3.out.get 2 rfl
  have f2 := Z3.out.free 2
  replace S3 := hid (S3.out.other (((chg_setCell v3 gz 0 (.int .u8 (y0 : Int))).trans (chg_setCell (v3.setCell ⟨gz, 0, none⟩ (.int .u8 (y0 : Int))) gz 1 (.int .u32 (y1 : Int)))).trans (chg_setCell ((v3.setCell ⟨gz, 0, none⟩ (.int .u8 (y0 : Int))).setCell ⟨gz, 1, none⟩ (.int .u32 (y1 : Int))) gz 2 (.int .i64 (y2 : Int)))) (by have := HG.out; have := HZ.out; simp; omega))
  replace C3 := hid (C3.out.newer (((chg_setCell v3 gz 0 (.int .u8 (y0 : Int))).trans (chg_setCell (v3.setCell ⟨gz, 0, none⟩ (.int .u8 (y0 : Int))) gz 1 (.int .u32 (y1 : Int)))).trans (chg_setCell ((v3.setCell ⟨gz, 0, none⟩ (.int .u8 (y0 : Int))).setCell ⟨gz, 1, none⟩ (.int .u32 (y1 : Int))) gz 2 (.int .i64 (y2 : Int)))) (by have := HZ.out; simp; omega))
  replace Z3 := hid (show Blk (((v3.setCell ⟨gz, 0, none⟩ (.int .u8 (y0 : Int))).setCell ⟨gz, 1, none⟩ (.int .u32 (y1 : Int))).setCell ⟨gz, 2, none⟩ (.int .i64 (y2 : Int))) gz [(.int .u8 (y0 : Int)), (.int .u32 (y1 : Int)), (.int .i64 (y2 : Int)), .int .u32 0, .int .u8 0, .int .i64 0] 45 from by simpa using (((Z3.out.set 0 (.int .u8 (y0 : Int))).set 1 (.int .u32 (y1 : Int))).set 2 (.int .i64 (y2 : Int))))
  obtain ⟨s4, hs4⟩ : ∃ s', (numS s3).2 = s' := ⟨_, rfl⟩
  obtain ⟨y3, hy3⟩ : ∃ y, (numS s3).1 % 4294967296 = y := ⟨_, rfl⟩
  obtain ⟨q3, hq3⟩ : ∃ q, (q1 || decide (4294967295 < (numS s3).1)) = q := ⟨_, rfl⟩
  have hC := wide_calls S3.out
  rw [hs4, hy3, hq3] at hC
  have yb3 : (y3 : Int) ≤ 4294967295 := by rw [← hy3]; omega
  have Y3 := hid hy3
  have Q3 := hid hq3
  clear hy3 hq3
  have HS4 := hid hs4
  clear hs4
  have HC := hid hC
  clear hC
  go_wp2_with fail
  generalize (((v3.setCell ⟨gz, 0, none⟩ (.int .u8 (y0 : Int))).setCell ⟨gz, 1, none⟩ (.int .u32 (y1 : Int))).setCell ⟨gz, 2, none⟩ (.int .i64 (y2 : Int))) = v3 at S3 Z3 C3 HC ⊢
  clear c0 f0 c1 f1 c2 f2
  refine HC.out.mono ?_
  rintro e v4 ⟨rfl, hS, hK⟩
  have S4 := hid hS
  have Z4 := hid (Z3.out.keep hK (by have := HG.out; have := HZ.out; simp; omega))
  have C4 := hid (C3.out.trans hK)
  clear hS hK HC
  obtain ⟨s5, hs5⟩ : ∃ s', (numS s4).2 = s' := ⟨_, rfl⟩
  obtain ⟨y4, hy4⟩ : ∃ y, (numS s4).1 % 256 = y := ⟨_, rfl⟩
  obtain ⟨q4, hq4⟩ : ∃ q, (q3 || decide (255 < (numS s4).1)) = q := ⟨_, rfl⟩
  have hC := small_calls S4.out
  rw [hs5, hy4, hq4] at hC
  have yb4 : (y4 : Int) ≤ 255 := by rw [← hy4]; omega
  have Y4 := hid hy4
  have Q4 := hid hq4
  clear hy4 hq4
  have HS5 := hid hs5
  clear hs5
  have HC := hid hC
  clear hC
  go_wp2_with fail
  refine HC.out.mono ?_
  rintro e v5 ⟨rfl, hS, hK⟩
  have S5 := hid hS
  have Z5 := hid (Z4.out.keep hK (by have := HG.out; have := HZ.out; simp; omega))
  have C5 := hid (C4.out.trans hK)
  clear hS hK HC
  obtain ⟨s6, hs6⟩ : ∃ s', (intS s5).2 = s' := ⟨_, rfl⟩
  obtain ⟨y5, hy5⟩ : ∃ y, (intS s5).1 = y := ⟨_, rfl⟩
  have hC := sc_int S5.out
  rw [hs6, hy5] at hC
  have Y5 := hid hy5
  clear hy5
  have HS6 := hid hs6
  clear hs6
  have HC := hid hC
  clear hC
  go_wp2_with fail
  refine HC.out.mono ?_
  rintro e v6 ⟨rfl, hS, hK⟩
  have S6 := hid hS
  have Z6 := hid (Z5.out.keep hK (by have := HG.out; have := HZ.out; simp; omega))
  have C6 := hid (C5.out.trans hK)
  clear hS hK HC
  have c3 := Z6.out.get 3 rfl
  have f3 := Z6.out.free 3
  have c4 := Z6.out.get 4 rfl
  have f4 := Z6.out.free 4
  have c5 := Z6.out.get 5 rfl
  have f5 := Z6.out.free 5
  replace S6 := hid (S6.out.other (((chg_setCell v6 gz 3 (.int .u32 (y3 : Int))).trans (chg_setCell (v6.setCell ⟨gz, 3, none⟩ (.int .u32 (y3 : Int))) gz 4 (.int .u8 (y4 : Int)))).trans (chg_setCell ((v6.setCell ⟨gz, 3, none⟩ (.int .u32 (y3 : Int))).setCell ⟨gz, 4, none⟩ (.int .u8 (y4 : Int))) gz 5 (.int .i64 (y5 : Int)))) (by have := HG.out; have := HZ.out; simp; omega))
  replace C6 := hid (C6.out.newer (((chg_setCell v6 gz 3 (.int .u32 (y3 : Int))).trans (chg_setCell (v6.setCell ⟨gz, 3, none⟩ (.int .u32 (y3 : Int))) gz 4 (.int .u8 (y4 : Int)))).trans (chg_setCell ((v6.setCell ⟨gz, 3, none⟩ (.int .u32 (y3 : Int))).setCell ⟨gz, 4, none⟩ (.int .u8 (y4 : Int))) gz 5 (.int .i64 (y5 : Int)))) (by have := HZ.out; simp; omega))
  replace Z6 := hid (show Blk (((v6.setCell ⟨gz, 3, none⟩ (.int .u32 (y3 : Int))).setCell ⟨gz, 4, none⟩ (.int .u8 (y4 : Int))).setCell ⟨gz, 5, none⟩ (.int .i64 (y5 : Int))) gz [(.int .u8 (y0 : Int)), (.int .u32 (y1 : Int)), (.int .i64 (y2 : Int)), (.int .u32 (y3 : Int)), (.int .u8 (y4 : Int)), (.int .i64 (y5 : Int))] 45 from by simpa using (((Z6.out.set 3 (.int .u32 (y3 : Int))).set 4 (.int .u8 (y4 : Int))).set 5 (.int .i64 (y5 : Int))))
  go_upto_region 4 with fail
  generalize (((v6.setCell ⟨gz, 3, none⟩ (.int .u32 (y3 : Int))).setCell ⟨gz, 4, none⟩ (.int .u8 (y4 : Int))).setCell ⟨gz, 5, none⟩ (.int .i64 (y5 : Int))) = vL at S6 Z6 C6 ⊢
  clear c3 f3 c4 f4 c5 f5
  go_step
  refine wpList_load_blk (o := ⟨some 20, _, _, _, _, _⟩) 45 (.tmp 3) rfl rfl gz [(.int .u8 (y0 : Int)), (.int .u32 (y1 : Int)), (.int .i64 (y2 : Int)), (.int .u32 (y3 : Int)), (.int .u8 (y4 : Int)), (.int .i64 (y5 : Int))] _ rfl Z6.out ⟨_, Tryd.underlying45, rfl⟩ (by kernel_rfl) ?_
  refine wpList_store_blk (o := ⟨none, _, 0, _, _, _⟩) 45 (.tmp 3) (.tmp 20) rfl rfl gz [(.int .u8 (y0 : Int)), (.int .u32 (y1 : Int)), (.int .i64 (y2 : Int)), (.int .u32 (y3 : Int)), (.int .u8 (y4 : Int)), (.int .i64 (y5 : Int))] [(.int .u8 (y0 : Int)), (.int .u32 (y1 : Int)), (.int .i64 (y2 : Int)), (.int .u32 (y3 : Int)), (.int .u8 (y4 : Int)), (.int .i64 (y5 : Int))] _ rfl rfl Z6.out rfl (by kernel_rfl) (by simp [Value.oneCell']) ?_
  intro vE hZ hE
  repeat go_step
  have SE := S6.out.other hE (by have := HG.out; have := HZ.out; simp; omega)
  have CE := C6.out.newer hE (by have := HZ.out; simp; omega)
  have hrd : rdrep s0 = (⟨y0, y1, (y2 : Int), y3, y4, (y5 : Int)⟩, q4, s6) := by
    simp only [rdrep, HS1.out, HS2.out, HS3.out, HS4.out, HS5.out, HS6.out, Y0.out, Y1.out, Y2.out, Y3.out, Y4.out, Y5.out, Q0.out, Q1.out, Q3.out, Q4.out]
  refine bodyPost_ret (v := .agg [(.int .u8 (y0 : Int)), (.int .u32 (y1 : Int)), (.int .i64 (y2 : Int)), (.int .u32 (y3 : Int)), (.int .u8 (y4 : Int)), (.int .i64 (y5 : Int))].toArray) (results_blk rfl _ gz [(.int .u8 (y0 : Int)), (.int .u32 (y1 : Int)), (.int .i64 (y2 : Int)), (.int .u32 (y3 : Int)), (.int .u8 (y4 : Int)), (.int .i64 (y5 : Int))] _ rfl hZ ⟨_, Tryd.underlying45, rfl⟩ (by kernel_rfl)) rfl ?_
  unfold RdrepTo
  rw [hrd]
  exact ⟨rfl, SE, CE⟩

/-- what is read -/
def rdpak (s0 : St) : PakD × Bool × St :=
  let x0 := numS s0
  let s1 := x0.2
  let x1 := numS s1
  let s2 := x1.2
  let x2 := numS s2
  let s3 := x2.2
  let x3 := numS s3
  let s4 := x3.2
  let x4 := numS s4
  let s5 := x4.2
  let x5 := boolS s5
  let s6 := x5.2
  let x6 := textS s6
  let s7 := x6.2
  (⟨x0.1 % 256, x1.1 % 4294967296, x2.1 % 4294967296, x3.1 % 4294967296, x4.1 % 4294967296, x5.1, x6.1⟩, (((((false || decide (255 < x0.1)) || decide (4294967295 < x1.1)) || decide (4294967295 < x2.1)) || decide (4294967295 < x3.1)) || decide (4294967295 < x4.1)), s7)

def RdpakTo (w0 w : World) (g gs : Nat) (s0 : St) : Ending → World → Prop := fun e w' => ∃ v, e = .returned (.agg (pakV (rdpak s0).1 v).toArray) ∧ (∃ a c, v = .slice a (rdpak s0).1.data.length c ∧ BS w' a c (rdpak s0).1.data ∧ (∀ x, a = some x → w.heap.size ≤ x.block)) ∧ ScB w0 g gs (rdpak s0).2.2 (rdpak s0).2.1 w' ∧ Chg [g, gs] w w'

set_option maxRecDepth 100000 in
set_option maxHeartbeats 4000000 in
theorem pakRead1_calls {w0 w : World} {g gs : Nat} (s0 : St) (pv : Value) (he : EyeAt w w0.heap.size g s0.1 s0.2) (hs : Blk w gs [pv, .bool false] 86) (hc : Chg [gs] w0 w) (hlt : gs < w0.heap.size) (hl : s0.1.length ≤ 100000) :
    Calls Tryd.prog 64 #[.pointer (some ⟨g, 0, none⟩), .pointer (some ⟨gs, 0, none⟩)] w (RdpakTo w0 w g gs s0) := by
  have c0 := hs.get 0 rfl
  have f0 := hs.free 0
  have hg : gs < g ∧ g < w.heap.size := by obtain ⟨_, _, h1⟩ := he; exact ⟨Nat.lt_of_lt_of_le hlt h1.ge, h1.own.lt⟩
  have hgs : gs < w.heap.size := by omega
  have HG := hid hg
  have hsz : (w.setCell ⟨gs, 0, none⟩ (.pointer (some ⟨g, 0, none⟩))).heap.size = w.heap.size := by simp
  have hk := chg_setCell w gs 0 (.pointer (some ⟨g, 0, none⟩))
  have hb := below_alloc (w.setCell ⟨gs, 0, none⟩ (.pointer (some ⟨g, 0, none⟩))) (.cells #[.int .u8 0, .int .u32 0, .int .u32 0, .int .u32 0, .int .u32 0, .bool false, .slice none 0 0] 27)
  have S0 := hid (show ScB w0 g gs s0 false ((w.setCell ⟨gs, 0, none⟩ (.pointer (some ⟨g, 0, none⟩))).alloc (.cells #[.int .u8 0, .int .u32 0, .int .u32 0, .int .u32 0, .int .u32 0, .bool false, .slice none 0 0] 27)) from
    ScB.below ⟨he.keep hk (fun k hk => by simp at hk; omega), by simpa using hs.set 0 (.pointer (some ⟨g, 0, none⟩)), hc.trans hk, hlt, hl⟩ hb)
  have Z0 := hid (show Blk ((w.setCell ⟨gs, 0, none⟩ (.pointer (some ⟨g, 0, none⟩))).alloc (.cells #[.int .u8 0, .int .u32 0, .int .u32 0, .int .u32 0, .int .u32 0, .bool false, .slice none 0 0] 27)) w.heap.size [.int .u8 0, .int .u32 0, .int .u32 0, .int .u32 0, .int .u32 0, .bool false, .slice none 0 0] 27 from by
    have := blk_alloc (w.setCell ⟨gs, 0, none⟩ (.pointer (some ⟨g, 0, none⟩))) [.int .u8 0, .int .u32 0, .int .u32 0, .int .u32 0, .int .u32 0, .bool false, .slice none 0 0] 27
    rw [hsz] at this
    exact this)
  have C0 := hid (show Chg [g, gs] w ((w.setCell ⟨gs, 0, none⟩ (.pointer (some ⟨g, 0, none⟩))).alloc (.cells #[.int .u8 0, .int .u32 0, .int .u32 0, .int .u32 0, .int .u32 0, .bool false, .slice none 0 0] 27)) from
    (hk.mono (by simp)).trans (Chg.of_below _ hb))
  clear hk hb hsz
  obtain ⟨gz, hgz⟩ : ∃ gz, w.heap.size = gz := ⟨_, rfl⟩
  have HZ := hid hgz
  rw [hgz] at Z0
  clear hs he hc hl hg hgz
  go_enter Tryd.func64, Tryd.ntmps64
  go_wp2_with fail
  generalize ((w.setCell ⟨gs, 0, none⟩ (.pointer (some ⟨g, 0, none⟩))).alloc (.cells #[.int .u8 0, .int .u32 0, .int .u32 0, .int .u32 0, .int .u32 0, .bool false, .slice none 0 0] 27)) = v0 at S0 Z0 C0 ⊢
  clear c0 f0 hgs
  rw [HZ.out]
  obtain ⟨s1, hs1⟩ : ∃ s', (numS s0).2 = s' := ⟨_, rfl⟩
  obtain ⟨y0, hy0⟩ : ∃ y, (numS s0).1 % 256 = y := ⟨_, rfl⟩
  obtain ⟨q0, hq0⟩ : ∃ q, (false || decide (255 < (numS s0).1)) = q := ⟨_, rfl⟩
  have hC := small_calls S0.out
  rw [hs1, hy0, hq0] at hC
  have yb0 : (y0 : Int) ≤ 255 := by rw [← hy0]; omega
  have Y0 := hid hy0
  have Q0 := hid hq0
  clear hy0 hq0
  have HS1 := hid hs1
  clear hs1
  have HC := hid hC
  clear hC
  refine HC.out.mono ?_
  rintro e v1 ⟨rfl, hS, hK⟩
  have S1 := hid hS
  have Z1 := hid (Z0.out.keep hK (by have := HG.out; have := HZ.out; simp; omega))
  have C1 := hid (C0.out.trans hK)
  clear hS hK HC
  obtain ⟨s2, hs2⟩ : ∃ s', (numS s1).2 = s' := ⟨_, rfl⟩
  obtain ⟨y1, hy1⟩ : ∃ y, (numS s1).1 % 4294967296 = y := ⟨_, rfl⟩
  obtain ⟨q1, hq1⟩ : ∃ q, (q0 || decide (4294967295 < (numS s1).1)) = q := ⟨_, rfl⟩
  have hC := wide_calls S1.out
  rw [hs2, hy1, hq1] at hC
  have yb1 : (y1 : Int) ≤ 4294967295 := by rw [← hy1]; omega
  have Y1 := hid hy1
  have Q1 := hid hq1
  clear hy1 hq1
  have HS2 := hid hs2
  clear hs2
  have HC := hid hC
  clear hC
  go_wp2_with fail
  refine HC.out.mono ?_
  rintro e v2 ⟨rfl, hS, hK⟩
  have S2 := hid hS
  have Z2 := hid (Z1.out.keep hK (by have := HG.out; have := HZ.out; simp; omega))
  have C2 := hid (C1.out.trans hK)
  clear hS hK HC
  obtain ⟨s3, hs3⟩ : ∃ s', (numS s2).2 = s' := ⟨_, rfl⟩
  obtain ⟨y2, hy2⟩ : ∃ y, (numS s2).1 % 4294967296 = y := ⟨_, rfl⟩
  obtain ⟨q2, hq2⟩ : ∃ q, (q1 || decide (4294967295 < (numS s2).1)) = q := ⟨_, rfl⟩
  have hC := wide_calls S2.out
  rw [hs3, hy2, hq2] at hC
  have yb2 : (y2 : Int) ≤ 4294967295 := by rw [← hy2]; omega
  have Y2 := hid hy2
  have Q2 := hid hq2
  clear hy2 hq2
  have HS3 := hid hs3
  clear hs3
  have HC := hid hC
  clear hC
  go_wp2_with fail
  refine HC.out.mono ?_
  rintro e v3 ⟨rfl, hS, hK⟩
  have S3 := hid hS
  have Z3 := hid (Z2.out.keep hK (by have := HG.out; have := HZ.out; simp; omega))
  have C3 := hid (C2.out.trans hK)
  clear hS hK HC
  obtain ⟨s4, hs4⟩ : ∃ s', (numS s3).2 = s' := ⟨_, rfl⟩
  obtain ⟨y3, hy3⟩ : ∃ y, (numS s3).1 % 4294967296 = y := ⟨_, rfl⟩
  obtain ⟨q3, hq3⟩ : ∃ q, (q2 || decide (4294967295 < (numS s3).1)) = q := ⟨_, rfl⟩
  have hC := wide_calls S3.out
  rw [hs4, hy3, hq3] at hC
  have yb3 : (y3 : Int) ≤ 4294967295 := by rw [← hy3]; omega
  have Y3 := hid hy3
  have Q3 := hid hq3
  clear hy3 hq3
  have HS4 := hid hs4
  clear hs4
  have HC := hid hC
  clear hC
  go_wp2_with fail
  refine HC.out.mono ?_
  rintro e v4 ⟨rfl, hS, hK⟩
  have S4 := hid hS
  have Z4 := hid (Z3.out.keep hK (by have := HG.out; have := HZ.out; simp; omega))
  have C4 := hid (C3.out.trans hK)
  clear hS hK HC
  obtain ⟨s5, hs5⟩ : ∃ s', (numS s4).2 = s' := ⟨_, rfl⟩
  obtain ⟨y4, hy4⟩ : ∃ y, (numS s4).1 % 4294967296 = y := ⟨_, rfl⟩
  obtain ⟨q4, hq4⟩ : ∃ q, (q3 || decide (4294967295 < (numS s4).1)) = q := ⟨_, rfl⟩
  have hC := wide_calls S4.out
  rw [hs5, hy4, hq4] at hC
  have yb4 : (y4 : Int) ≤ 4294967295 := by rw [← hy4]; omega
  have Y4 := hid hy4
  have Q4 := hid hq4
  clear hy4 hq4
  have HS5 := hid hs5
  clear hs5
  have HC := hid hC
  clear hC
  go_wp2_with fail
  refine HC.out.mono ?_
  rintro e v5 ⟨rfl, hS, hK⟩
  have S5 := hid hS
  have Z5 := hid (Z4.out.keep hK (by have := HG.out; have := HZ.out; simp; omega))
  have C5 := hid (C4.out.trans hK)
  clear hS hK HC
  have c0 := Z5.out.get 0 rfl
  have f0 := Z5.out.free 0
  have c1 := Z5.out.get 1 rfl
  have f1 := Z5.out.free 1
  have c2 := Z5.out.get 2 rfl
  have f2 := Z5.out.free 2
  have c3 := Z5.out.get 3 rfl
  have f3 := Z5.out.free 3
  have c4 := Z5.out.get 4 rfl
  have f4 := Z5.out.free 4
  replace S5 := hid (S5.out.other (((((chg_setCell v5 gz 0 (.int .u8 (y0 : Int))).trans (chg_setCell (v5.setCell ⟨gz, 0, none⟩ (.int .u8 (y0 : Int))) gz 1 (.int .u32 (y1 : Int)))).trans (chg_setCell ((v5.setCell ⟨gz, 0, none⟩ (.int .u8 (y0 : Int))).setCell ⟨gz, 1, none⟩ (.int .u32 (y1 : Int))) gz 2 (.int .u32 (y2 : Int)))).trans (chg_setCell (((v5.setCell ⟨gz, 0, none⟩ (.int .u8 (y0 : Int))).setCell ⟨gz, 1, none⟩ (.int .u32 (y1 : Int))).setCell ⟨gz, 2, none⟩ (.int .u32 (y2 : Int))) gz 3 (.int .u32 (y3 : Int)))).trans (chg_setCell ((((v5.setCell ⟨gz, 0, none⟩ (.int .u8 (y0 : Int))).setCell ⟨gz, 1, none⟩ (.int .u32 (y1 : Int))).setCell ⟨gz, 2, none⟩ (.int .u32 (y2 : Int))).setCell ⟨gz, 3, none⟩ (.int .u32 (y3 : Int))) gz 4 (.int .u32 (y4 : Int)))) (by have := HG.out; have := HZ.out; simp; omega))
  replace C5 := hid (C5.out.newer (((((chg_setCell v5 gz 0 (.int .u8 (y0 : Int))).trans (chg_setCell (v5.setCell ⟨gz, 0, none⟩ (.int .u8 (y0 : Int))) gz 1 (.int .u32 (y1 : Int)))).trans (chg_setCell ((v5.setCell ⟨gz, 0, none⟩ (.int .u8 (y0 : Int))).setCell ⟨gz, 1, none⟩ (.int .u32 (y1 : Int))) gz 2 (.int .u32 (y2 : Int)))).trans (chg_setCell (((v5.setCell ⟨gz, 0, none⟩ (.int .u8 (y0 : Int))).setCell ⟨gz, 1, none⟩ (.int .u32 (y1 : Int))).setCell ⟨gz, 2, none⟩ (.int .u32 (y2 : Int))) gz 3 (.int .u32 (y3 : Int)))).trans (chg_setCell ((((v5.setCell ⟨gz, 0, none⟩ (.int .u8 (y0 : Int))).setCell ⟨gz, 1, none⟩ (.int .u32 (y1 : Int))).setCell ⟨gz, 2, none⟩ (.int .u32 (y2 : Int))).setCell ⟨gz, 3, none⟩ (.int .u32 (y3 : Int))) gz 4 (.int .u32 (y4 : Int)))) (by have := HZ.out; simp; omega))
  replace Z5 := hid (show Blk (((((v5.setCell ⟨gz, 0, none⟩ (.int .u8 (y0 : Int))).setCell ⟨gz, 1, none⟩ (.int .u32 (y1 : Int))).setCell ⟨gz, 2, none⟩ (.int .u32 (y2 : Int))).setCell ⟨gz, 3, none⟩ (.int .u32 (y3 : Int))).setCell ⟨gz, 4, none⟩ (.int .u32 (y4 : Int))) gz [(.int .u8 (y0 : Int)), (.int .u32 (y1 : Int)), (.int .u32 (y2 : Int)), (.int .u32 (y3 : Int)), (.int .u32 (y4 : Int)), .bool false, .slice none 0 0] 27 from by simpa using (((((Z5.out.set 0 (.int .u8 (y0 : Int))).set 1 (.int .u32 (y1 : Int))).set 2 (.int .u32 (y2 : Int))).set 3 (.int .u32 (y3 : Int))).set 4 (.int .u32 (y4 : Int))))
  obtain ⟨s6, hs6⟩ : ∃ s', (boolS s5).2 = s' := ⟨_, rfl⟩
  obtain ⟨y5, hy5⟩ : ∃ y, (boolS s5).1 = y := ⟨_, rfl⟩
  have hC := sc_bool S5.out
  rw [hs6, hy5] at hC
  have Y5 := hid hy5
  clear hy5
  have HS6 := hid hs6
  clear hs6
  have HC := hid hC
  clear hC
  go_wp2_with fail
  generalize (((((v5.setCell ⟨gz, 0, none⟩ (.int .u8 (y0 : Int))).setCell ⟨gz, 1, none⟩ (.int .u32 (y1 : Int))).setCell ⟨gz, 2, none⟩ (.int .u32 (y2 : Int))).setCell ⟨gz, 3, none⟩ (.int .u32 (y3 : Int))).setCell ⟨gz, 4, none⟩ (.int .u32 (y4 : Int))) = v5 at S5 Z5 C5 HC ⊢
  clear c0 f0 c1 f1 c2 f2 c3 f3 c4 f4
  refine HC.out.mono ?_
  rintro e v6 ⟨rfl, hS, hK⟩
  have S6 := hid hS
  have Z6 := hid (Z5.out.keep hK (by have := HG.out; have := HZ.out; simp; omega))
  have C6 := hid (C5.out.trans hK)
  clear hS hK HC
  obtain ⟨s7, hs7⟩ : ∃ s', (textS s6).2 = s' := ⟨_, rfl⟩
  obtain ⟨y6, hy6⟩ : ∃ y, (textS s6).1 = y := ⟨_, rfl⟩
  have hC := sc_text S6.out
  rw [hs7, hy6] at hC
  have Y6 := hid hy6
  clear hy6
  have HS7 := hid hs7
  clear hs7
  have HC := hid hC
  clear hC
  go_wp2_with fail
  refine HC.out.mono ?_
  rintro e v7 ⟨at', ct, rfl, hbt, hS, hK, hfresh⟩
  have S7 := hid hS
  have Z7 := hid (Z6.out.keep hK (by have := HG.out; have := HZ.out; simp; omega))
  have C7 := hid (C6.out.trans hK)
  have HT := hid hbt
  have HF := hid (fun x hx => Nat.le_trans C6.out.size (hfresh x hx))
  have HF2 := hid (fun x hx => Nat.lt_of_lt_of_le Z6.out.lt (hfresh x hx))
  have hml := hbt.max'
  clear hbt hfresh
  clear hS hK HC
  have c5 := Z7.out.get 5 rfl
  have f5 := Z7.out.free 5
  have c6 := Z7.out.get 6 rfl
  have f6 := Z7.out.free 6
  replace S7 := hid (S7.out.other ((chg_setCell v7 gz 5 (.bool y5)).trans (chg_setCell (v7.setCell ⟨gz, 5, none⟩ (.bool y5)) gz 6 (.slice at' y6.length ct))) (by have := HG.out; have := HZ.out; simp; omega))
  replace HT := hid (cs_chg HT.out ((chg_setCell v7 gz 5 (.bool y5)).trans (chg_setCell (v7.setCell ⟨gz, 5, none⟩ (.bool y5)) gz 6 (.slice at' y6.length ct))) (fun x hx hm => by have := HF2.out x hx; simp at hm; omega))
  replace C7 := hid (C7.out.newer ((chg_setCell v7 gz 5 (.bool y5)).trans (chg_setCell (v7.setCell ⟨gz, 5, none⟩ (.bool y5)) gz 6 (.slice at' y6.length ct))) (by have := HZ.out; simp; omega))
  replace Z7 := hid (show Blk ((v7.setCell ⟨gz, 5, none⟩ (.bool y5)).setCell ⟨gz, 6, none⟩ (.slice at' y6.length ct)) gz [(.int .u8 (y0 : Int)), (.int .u32 (y1 : Int)), (.int .u32 (y2 : Int)), (.int .u32 (y3 : Int)), (.int .u32 (y4 : Int)), (.bool y5), (.slice at' y6.length ct)] 27 from by simpa using ((Z7.out.set 5 (.bool y5)).set 6 (.slice at' y6.length ct)))
  go_upto_region 4 with fail
  generalize ((v7.setCell ⟨gz, 5, none⟩ (.bool y5)).setCell ⟨gz, 6, none⟩ (.slice at' y6.length ct)) = vL at S7 Z7 C7 HT ⊢
  clear c5 f5 c6 f6
  go_step
  refine wpList_load_blk (o := ⟨some 22, _, _, _, _, _⟩) 27 (.tmp 3) rfl rfl gz [(.int .u8 (y0 : Int)), (.int .u32 (y1 : Int)), (.int .u32 (y2 : Int)), (.int .u32 (y3 : Int)), (.int .u32 (y4 : Int)), (.bool y5), (.slice at' y6.length ct)] _ rfl Z7.out ⟨_, Tryd.underlying27, rfl⟩ (by kernel_rfl) ?_
  refine wpList_store_blk (o := ⟨none, _, 0, _, _, _⟩) 27 (.tmp 3) (.tmp 22) rfl rfl gz [(.int .u8 (y0 : Int)), (.int .u32 (y1 : Int)), (.int .u32 (y2 : Int)), (.int .u32 (y3 : Int)), (.int .u32 (y4 : Int)), (.bool y5), (.slice at' y6.length ct)] [(.int .u8 (y0 : Int)), (.int .u32 (y1 : Int)), (.int .u32 (y2 : Int)), (.int .u32 (y3 : Int)), (.int .u32 (y4 : Int)), (.bool y5), (.slice at' y6.length ct)] _ rfl rfl Z7.out rfl (by kernel_rfl) (by simp [Value.oneCell']) ?_
  intro vE hZ hE
  repeat go_step
  have SE := S7.out.other hE (by have := HG.out; have := HZ.out; simp; omega)
  have CE := C7.out.newer hE (by have := HZ.out; simp; omega)
  have TE := cs_chg HT.out hE (fun x hx hm => by have := HF2.out x hx; simp at hm; omega)
  have hrd : rdpak s0 = (⟨y0, y1, y2, y3, y4, y5, y6⟩, q4, s7) := by
    simp only [rdpak, HS1.out, HS2.out, HS3.out, HS4.out, HS5.out, HS6.out, HS7.out, Y0.out, Y1.out, Y2.out, Y3.out, Y4.out, Y5.out, Y6.out, Q0.out, Q1.out, Q2.out, Q3.out, Q4.out]
  refine bodyPost_ret (v := .agg [(.int .u8 (y0 : Int)), (.int .u32 (y1 : Int)), (.int .u32 (y2 : Int)), (.int .u32 (y3 : Int)), (.int .u32 (y4 : Int)), (.bool y5), (.slice at' y6.length ct)].toArray) (results_blk rfl _ gz [(.int .u8 (y0 : Int)), (.int .u32 (y1 : Int)), (.int .u32 (y2 : Int)), (.int .u32 (y3 : Int)), (.int .u32 (y4 : Int)), (.bool y5), (.slice at' y6.length ct)] _ rfl hZ ⟨_, Tryd.underlying27, rfl⟩ (by kernel_rfl)) rfl ?_
  unfold RdpakTo
  rw [hrd]
  exact ⟨_, rfl, ⟨at', ct, rfl, TE, fun x hx => HF.out x hx⟩, SE, CE⟩
end Go.Proofs.YtmmcmldcbdaooaaDoor
