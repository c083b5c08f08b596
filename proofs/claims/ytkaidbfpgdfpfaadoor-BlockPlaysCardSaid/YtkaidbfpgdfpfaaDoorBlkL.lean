/- What the laws of layer 6 are handed, opened. -/
import Derived.Test.YtkaidbfpgdfpfaaDoorBlkK
namespace Go.Proofs.YtkaidbfpgdfpfaaDoor
open Go.RowKit Go.Quad _root_.Quad _root_.Quad.Slab

theorem lst5 {α : Type} {cs : List α} (h : cs.length = 5) : ∃ a b c d e, cs = [a, b, c, d, e] := by
  match cs, h with
  | [a, b, c, d, e], _ => exact ⟨a, b, c, d, e, rfl⟩
theorem lst4 {α : Type} {cs : List α} (h : cs.length = 4) : ∃ a b c d, cs = [a, b, c, d] := by
  match cs, h with
  | [a, b, c, d], _ => exact ⟨a, b, c, d, rfl⟩
theorem un8 {n : Int} (h : (Lit.int .u8 n).wf = true) : ∃ k : Nat, n = k ∧ k < 256 := by
  have := bounds_u8 h
  exact ⟨n.toNat, by omega, by omega⟩
theorem un32 {n : Int} (h : (Lit.int .u32 n).wf = true) : ∃ k : Nat, n = k ∧ k < 4294967296 := by
  have := bounds_u32 h
  exact ⟨n.toNat, by omega, by omega⟩
theorem un16 {n : Int} (h : (Lit.int .u16 n).wf = true) : ∃ k : Nat, n = k ∧ k < 65536 := by
  have := bounds_u16 h
  exact ⟨n.toNat, by omega, by omega⟩
def blkV (x : BlkD) (a : Option Addr) (c : Nat) : List Value := [.int .u8 (x.kind : Int), .int .u32 (x.epoch : Int), .int .u32 (x.a : Int), .int .u32 (x.b : Int), .slice a x.data.length c]
theorem blk_cells {w : World} {cs : List Value} (hl : cs.length = 5) (hr : RC Tryd.prog w 34 cs) : ∃ x a c, cs = blkV x a c ∧ x.Ok ∧ BS w a c x.data := by
  obtain ⟨x0, x1, x2, x3, x4, rfl⟩ := lst5 hl
  obtain ⟨z0, e0, w0⟩ := (hr.fld Tryd.underlying34 0 5 0 1 (by kernel_rfl) (by kernel_rfl)).int under_u8
  obtain ⟨z1, e1, w1⟩ := (hr.fld Tryd.underlying34 1 29 1 1 (by kernel_rfl) (by kernel_rfl)).int Tryd.underlying29
  obtain ⟨z2, e2, w2⟩ := (hr.fld Tryd.underlying34 2 29 2 1 (by kernel_rfl) (by kernel_rfl)).int Tryd.underlying29
  obtain ⟨z3, e3, w3⟩ := (hr.fld Tryd.underlying34 3 29 3 1 (by kernel_rfl) (by kernel_rfl)).int Tryd.underlying29
  obtain ⟨a, c, l, e4, hb⟩ := (hr.fld Tryd.underlying34 4 22 4 1 (by kernel_rfl) (by kernel_rfl)).bytes under_bytes under_u8 (by kernel_rfl)
  obtain ⟨k0, rfl, u0⟩ := un8 w0
  obtain ⟨k1, rfl, u1⟩ := un32 w1
  obtain ⟨k2, rfl, u2⟩ := un32 w2
  obtain ⟨k3, rfl, u3⟩ := un32 w3
  simp only [List.drop_zero, List.drop_succ_cons, List.take_succ_cons, List.take_zero, List.cons.injEq, and_true] at e0 e1 e2 e3 e4
  subst e0 e1 e2 e3 e4
  exact ⟨⟨k0, k1, k2, k3, l⟩, a, c, rfl, ⟨u0, u1, u2, u3⟩, hb⟩
theorem blk_open {w : World} {v : Value} (h : RV Tryd.prog w 34 v) : ∃ x a c, v = .agg (blkV x a c).toArray ∧ x.Ok ∧ BS w a c x.data := by
  obtain ⟨cs, rfl, hl, hr⟩ := h.struct Tryd.underlying34
  obtain ⟨x, a, c, rfl, h1, h2⟩ := blk_cells (hl.trans (by kernel_rfl)) hr
  exact ⟨x, a, c, rfl, h1, h2⟩
end Go.Proofs.YtkaidbfpgdfpfaaDoor
