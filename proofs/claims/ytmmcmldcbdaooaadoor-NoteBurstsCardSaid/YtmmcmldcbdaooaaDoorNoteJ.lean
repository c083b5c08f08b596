/- The walks of layer 4: the document's examples; what came in as notes and packets. -/
import Derived.Test.YtmmcmldcbdaooaaDoorNoteHq
import Derived.Test.YtmmcmldcbdaooaaDoorNoteS
import Derived.Test.YtmmcmldcbdaooaaDoorLib
namespace Go.Proofs.YtmmcmldcbdaooaaDoor
open Go.RowKit Go.Quad _root_.Quad _root_.Quad.Ink

theorem u8_of {n : Int} (h : (Lit.int .u8 n).wf = true) : ∃ k : Nat, n = (k : Int) ∧ k < 256 := by have := bounds_u8 h; exact ⟨n.toNat, by omega, by omega⟩
theorem u32_of {n : Int} (h : (Lit.int .u32 n).wf = true) : ∃ k : Nat, n = (k : Int) ∧ k < 4294967296 := by have := bounds_u32 h; exact ⟨n.toNat, by omega, by omega⟩

theorem list13 {α : Type} {cs : List α} (h : cs.length = 13) : ∃ x0 x1 x2 x3 x4 x5 x6 x7 x8 x9 x10 x11 x12, cs = [x0, x1, x2, x3, x4, x5, x6, x7, x8, x9, x10, x11, x12] := by
  match cs, h with
  | [x0, x1, x2, x3, x4, x5, x6, x7, x8, x9, x10, x11, x12], _ => exact ⟨_, _, _, _, _, _, _, _, _, _, _, _, _, rfl⟩
theorem list7 {α : Type} {cs : List α} (h : cs.length = 7) : ∃ x0 x1 x2 x3 x4 x5 x6, cs = [x0, x1, x2, x3, x4, x5, x6] := by
  match cs, h with
  | [x0, x1, x2, x3, x4, x5, x6], _ => exact ⟨_, _, _, _, _, _, _, rfl⟩

theorem note_open {w : World} {v : Value} (h : RV Tryd.prog w 25 v) : ∃ n a c, v = .agg (noteV n (.slice a n.blob.length c)).toArray ∧ n.Ok ∧ BS w a c n.blob := by
  obtain ⟨cs, rfl, hl, hr⟩ := h.struct Tryd.underlying25
  obtain ⟨x0, x1, x2, x3, x4, x5, x6, x7, x8, x9, x10, x11, x12, rfl⟩ := list13 (hl.trans (by kernel_rfl))
  obtain ⟨z0, e0, w0⟩ := (hr.fld Tryd.underlying25 0 5 0 1 (by kernel_rfl) (by kernel_rfl)).int under_u8
  obtain ⟨z1, e1, w1⟩ := (hr.fld Tryd.underlying25 1 5 1 1 (by kernel_rfl) (by kernel_rfl)).int under_u8
  obtain ⟨z2, e2, w2⟩ := (hr.fld Tryd.underlying25 2 22 2 1 (by kernel_rfl) (by kernel_rfl)).int Tryd.underlying22
  obtain ⟨z3, e3, w3⟩ := (hr.fld Tryd.underlying25 3 22 3 1 (by kernel_rfl) (by kernel_rfl)).int Tryd.underlying22
  obtain ⟨z4, e4, w4⟩ := (hr.fld Tryd.underlying25 4 22 4 1 (by kernel_rfl) (by kernel_rfl)).int Tryd.underlying22
  obtain ⟨z5, e5, w5⟩ := (hr.fld Tryd.underlying25 5 22 5 1 (by kernel_rfl) (by kernel_rfl)).int Tryd.underlying22
  obtain ⟨z6, e6, w6⟩ := (hr.fld Tryd.underlying25 6 22 6 1 (by kernel_rfl) (by kernel_rfl)).int Tryd.underlying22
  obtain ⟨z7, e7, w7⟩ := (hr.fld Tryd.underlying25 7 22 7 1 (by kernel_rfl) (by kernel_rfl)).int Tryd.underlying22
  obtain ⟨z8, e8, w8⟩ := (hr.fld Tryd.underlying25 8 5 8 1 (by kernel_rfl) (by kernel_rfl)).int under_u8
  obtain ⟨z9, e9, w9⟩ := (hr.fld Tryd.underlying25 9 3 9 1 (by kernel_rfl) (by kernel_rfl)).int Tryd.underlying3
  obtain ⟨z10, e10, w10⟩ := (hr.fld Tryd.underlying25 10 22 10 1 (by kernel_rfl) (by kernel_rfl)).int Tryd.underlying22
  obtain ⟨z11, e11, w11⟩ := (hr.fld Tryd.underlying25 11 22 11 1 (by kernel_rfl) (by kernel_rfl)).int Tryd.underlying22
  obtain ⟨a, c, l, e12, hb⟩ := (hr.fld Tryd.underlying25 12 23 12 1 (by kernel_rfl) (by kernel_rfl)).bytes under_bytes under_u8 (by kernel_rfl)
  obtain ⟨k0, rfl, u0⟩ := u8_of w0
  obtain ⟨k1, rfl, u1⟩ := u8_of w1
  obtain ⟨k2, rfl, u2⟩ := u32_of w2
  obtain ⟨k3, rfl, u3⟩ := u32_of w3
  obtain ⟨k4, rfl, u4⟩ := u32_of w4
  obtain ⟨k5, rfl, u5⟩ := u32_of w5
  obtain ⟨k6, rfl, u6⟩ := u32_of w6
  obtain ⟨k7, rfl, u7⟩ := u32_of w7
  obtain ⟨k8, rfl, u8⟩ := u8_of w8
  obtain ⟨k10, rfl, u10⟩ := u32_of w10
  obtain ⟨k11, rfl, u11⟩ := u32_of w11
  have u9 := bounds_i64 w9
  simp only [List.drop_zero, List.drop_succ_cons, List.take_succ_cons, List.take_zero, List.cons.injEq, and_true] at e0 e1 e2 e3 e4 e5 e6 e7 e8 e9 e10 e11 e12
  subst e0 e1 e2 e3 e4 e5 e6 e7 e8 e9 e10 e11 e12
  exact ⟨⟨k0, k1, k2, k3, k4, k5, k6, k7, k8, z9, k10, k11, l⟩, a, c, rfl, ⟨u0, u1, u2, u3, u4, u5, u6, u7, u8, u9, u10, u11⟩, hb⟩

theorem pak_open {w : World} {v : Value} (h : RV Tryd.prog w 27 v) : ∃ n a c, v = .agg (pakV n (.slice a n.data.length c)).toArray ∧ n.Ok ∧ BS w a c n.data := by
  obtain ⟨cs, rfl, hl, hr⟩ := h.struct Tryd.underlying27
  obtain ⟨x0, x1, x2, x3, x4, x5, x6, rfl⟩ := list7 (hl.trans (by kernel_rfl))
  obtain ⟨z0, e0, w0⟩ := (hr.fld Tryd.underlying27 0 5 0 1 (by kernel_rfl) (by kernel_rfl)).int under_u8
  obtain ⟨z1, e1, w1⟩ := (hr.fld Tryd.underlying27 1 22 1 1 (by kernel_rfl) (by kernel_rfl)).int Tryd.underlying22
  obtain ⟨z2, e2, w2⟩ := (hr.fld Tryd.underlying27 2 22 2 1 (by kernel_rfl) (by kernel_rfl)).int Tryd.underlying22
  obtain ⟨z3, e3, w3⟩ := (hr.fld Tryd.underlying27 3 22 3 1 (by kernel_rfl) (by kernel_rfl)).int Tryd.underlying22
  obtain ⟨z4, e4, w4⟩ := (hr.fld Tryd.underlying27 4 22 4 1 (by kernel_rfl) (by kernel_rfl)).int Tryd.underlying22
  obtain ⟨z5, e5⟩ := (hr.fld Tryd.underlying27 5 4 5 1 (by kernel_rfl) (by kernel_rfl)).bool Tryd.underlying4
  obtain ⟨a, c, l, e6, hb⟩ := (hr.fld Tryd.underlying27 6 23 6 1 (by kernel_rfl) (by kernel_rfl)).bytes under_bytes under_u8 (by kernel_rfl)
  obtain ⟨k0, rfl, u0⟩ := u8_of w0
  obtain ⟨k1, rfl, u1⟩ := u32_of w1
  obtain ⟨k2, rfl, u2⟩ := u32_of w2
  obtain ⟨k3, rfl, u3⟩ := u32_of w3
  obtain ⟨k4, rfl, u4⟩ := u32_of w4
  simp only [List.drop_zero, List.drop_succ_cons, List.take_succ_cons, List.take_zero, List.cons.injEq, and_true] at e0 e1 e2 e3 e4 e5 e6
  subst e0 e1 e2 e3 e4 e5 e6
  exact ⟨⟨k0, k1, k2, k3, k4, z5, l⟩, a, c, rfl, ⟨u0, u1, u2, u3, u4⟩, hb⟩

/-! ### the document's example -/
def exN : NoteD := ⟨1, 0, 3, 0, 9, 0, 0, 0, 0, 0, 0, 0, []⟩
theorem exN_ok : exN.Ok := by constructor <;> decide
theorem exN_form : formN exN = true := by decide
theorem exN_enc : encN exN = [1, 1, 0, 3, 0, 9, 0, 0, 0, 0, 0, 0, 0, 0] := by
  unfold encN rowT rowN exN NoteD.nums
  simp only [List.flatMap_cons, List.flatMap_nil, List.length_nil, Int.toNat_zero]
  rw [numL_small (n := 1) (by decide), numL_small (n := 0) (by decide), numL_small (n := 3) (by decide), numL_small (n := 9) (by decide)]
  rfl
theorem exN_note : noteL exN = (tieL (encN exN), 0) := by unfold noteL; rw [if_pos exN_form]
theorem exN_req : readreqL (tieL (encN exN)) = (reqZ, 4) := by
  have hu := untieL_tie (encN exN) (by rw [exN_enc]; decide)
  refine readreq_bad (by rw [hu]) ?_
  rw [hu]
  rintro ⟨h, _⟩
  have e : encN exN = numL 1 ++ [1, 0, 3, 0, 9, 0, 0, 0, 0, 0, 0, 0, 0] := by rw [exN_enc, numL_small (by decide)]; rfl
  dsimp only at h
  rw [e, numS_row _ _ (by decide)] at h
  cases h

set_option maxRecDepth 100000 in
set_option maxHeartbeats 1000000 in
theorem awake_calls (w : World) (hq : Laid w) : Calls Tryd.prog 10 #[] w (Said true w) := by
  have hN := note_calls exN none 0 w exN_ok (BS.nil w) hq
  rw [exN_note] at hN
  have hlen : (tieL (encN exN)).length = 20 := by rw [tieL_length, exN_enc]; rfl
  obtain ⟨p, hp⟩ : ∃ p, tieL (encN exN) = p := ⟨_, rfl⟩
  have hR := exN_req
  rw [hp] at hN hlen hR
  clear hp
  have HN := hid hN
  have HL := hid hlen
  have HR := hid hR
  have Hq := hid hq
  clear hN hlen hR hq
  go_enter Tryd.func10, Tryd.ntmps10
  go_wp2_with fail
  refine HN.out.mono ?_
  rintro e w1 ⟨v, rfl, ho, hb⟩
  obtain ⟨a1, n1, c1, rfl, hn1, hs1, _⟩ := ob_n ho
  have H1 := hid hs1
  have B1 := hid hb
  have N1 := hid hn1
  have hm := hs1.max'
  rw [hn1] at hm
  clear ho hs1 hb HN hn1
  go_wp2_with fail
  have hC := readreq_calls a1 c1 p w1 H1.out (by rw [HL.out]; decide) (Hq.out.below B1.out Hq.out.1)
  rw [N1.out, HR.out] at hC
  refine hC.mono ?_
  rintro e w2 ⟨rfl, hch⟩
  have B2 := hid (B1.out.trans (hch.below0.mono B1.out.size))
  have h20 : ((n1 : Int) == 20) = true := by rw [← N1.out, HL.out]; rfl
  clear hch hC
  dsimp only [reqV, reqZ]
  go_wp2_with fail
  go_ret
  exact ⟨rfl, B2.out.trans ((below_alloc _ _).mono B2.out.size)⟩
end Go.Proofs.YtmmcmldcbdaooaaDoor
