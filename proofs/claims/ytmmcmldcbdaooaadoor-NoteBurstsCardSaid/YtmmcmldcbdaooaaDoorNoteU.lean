/- The walks of layer 4: the document's readers. -/
import Derived.Test.YtmmcmldcbdaooaaDoorNoteT
import Derived.Test.YtmmcmldcbdaooaaDoorNoteN
import Derived.Test.YtmmcmldcbdaooaaDoorNoteR
import Derived.Test.YtmmcmldcbdaooaaDoorNoteK
import Derived.Test.YtmmcmldcbdaooaaDoorRowOps
namespace Go.Proofs.YtmmcmldcbdaooaaDoor
open Go.RowKit Go.Quad _root_.Quad _root_.Quad.Ink

theorem list8 {α : Type} {cs : List α} (h : cs.length = 8) : ∃ x0 x1 x2 x3 x4 x5 x6 x7, cs = [x0, x1, x2, x3, x4, x5, x6, x7] := by
  match cs, h with
  | [x0, x1, x2, x3, x4, x5, x6, x7], _ => exact ⟨_, _, _, _, _, _, _, _, rfl⟩

/-- a number of 64 bits, as one with a sign -/
def sg (x : Nat) : Int := if x < 9223372036854775808 then (x : Int) else (x : Int) - 18446744073709551616
theorem sg_range {x : Nat} (h : x < 18446744073709551616) : -9223372036854775808 ≤ sg x ∧ sg x ≤ 9223372036854775807 := by unfold sg; split <;> omega
theorem sg_small {x : Nat} (h : x < 9223372036854775808) : sg x = (x : Int) := by unfold sg; rw [if_pos h]
theorem wrap_sg {x : Nat} (h : x < 18446744073709551616) : IntKind.wrap .i64 (x : Int) = sg x := by
  unfold IntKind.wrap sg
  have e : (x : Int) % 2 ^ IntKind.bits .i64 = x := Int.emod_eq_of_lt (by omega) (by simp only [IntKind.bits]; omega)
  simp only [e, IntKind.signed, Bool.true_and, decide_eq_true_eq, ge_iff_le, IntKind.bits]
  split <;> split <;> omega
theorem run_u64_at (w : World) (g i : Nat) (v : Value) (h : w.cell? ⟨g, i, none⟩ = some v) : (Instr.loadAt 74 (.pointer (some ⟨g, i, none⟩))).run Tryd.prog w = .ok v w := by go_simp
theorem reqL_code (n : ReqD) : (formQ n = true ∧ reqL n = (tieL (encQ n), 0)) ∨ (formQ n = false ∧ reqL n = ([], 4)) := by
  unfold reqL; cases h : formQ n <;> simp
theorem repL_code (n : RepD) : (formR n = true ∧ repL n = (tieL (encR n), 0)) ∨ (formR n = false ∧ repL n = ([], 4)) := by
  unfold repL; cases h : formR n <;> simp
theorem wrap_u8 (x : Int) : IntKind.wrap .u8 x = x % 256 := by simp [IntKind.wrap, IntKind.signed, IntKind.bits]
theorem wrap_u32 (x : Int) : IntKind.wrap .u32 x = x % 4294967296 := by simp [IntKind.wrap, IntKind.signed, IntKind.bits]
theorem PutLast.last2 {P : Program} {R : Nat → Value → World → Prop} {w' : World} {Q : Exit → Act → World → Prop} {o o2 : Oper} {i : Nat} {a : Act}
    (h : ∀ v, R i v w' → OpOk P o2 (a.put o.dst v).eval w' fun u w'' => Q .normal ((a.put o.dst v).put o2.dst u) w'') : PutLast P [] R w' Q [o, o2] i a := fun v hv => h v hv
theorem PutLast.lastNew {P : Program} {R : Nat → Value → World → Prop} {w' : World} {Q : Exit → Act → World → Prop} {o o2 : Oper} {i : Nat} {a : Act} (cs : List Value) (t : TypeId) (B : Nat)
    (h : ∀ g, Blk w' g cs t → B ≤ g → OpOk P o2 (a.put o.dst (.pointer (some ⟨g, 0, none⟩))).eval w' fun u w'' => Q .normal ((a.put o.dst (.pointer (some ⟨g, 0, none⟩))).put o2.dst u) w'')
    (hR : ∀ v, R i v w' → ∃ g, v = .pointer (some ⟨g, 0, none⟩) ∧ Blk w' g cs t ∧ B ≤ g) : PutLast P [] R w' Q [o, o2] i a :=
  fun v hv => by
    obtain ⟨g, rfl, h1, h2⟩ := hR v hv
    exact h g h1 h2
theorem GuF.plain {ops : Array Oper} {o : Oper} {R : Nat → Value → World → Prop} {i : Nat} {ρ : Operand → Value} {w : World} {C : Prop} (hg : o.guard = none) (h : C) : GuF ops o R i ρ w C := by unfold GuF; rw [hg]; exact h
theorem InF.nil {ops : Array Oper} {o : Oper} {R : Nat → Value → World → Prop} {a0 : Act} {ρ : Operand → Value} {w : World} {l : List Operand} {C : Prop} (hl : l = []) (h : C) : InF ops o R a0 ρ w l C := by subst hl; exact h
theorem opOk_convI {P : Program} {o : Oper} {ρ : Operand → Value} {w : World} {K : Value → World → Prop} (src dst : TypeId) (x : Operand) (ho : o.op = .convert src dst x) (j k : IntKind) (n m : Int) (hx : ρ x = .int j n)
    (hs : (P.underlying src).isSome = true) (hd : P.underlying dst = some (.int k)) (hm : k.wrap n = m) (hk : K (.int k m) w) : OpOk P o ρ w K := by
  subst hm
  refine opOk_run (v := .int k (k.wrap n)) (w' := w) ?_ hk
  have hk' : P.intKind dst = k := by unfold Program.intKind; rw [hd]
  have := run_convert_int (P := P) (w := w) src dst j n hs (by rw [hk']; exact hd)
  rw [hk'] at this
  simp only [execOp, ho, hx, this, Sem.run_bind, Result.andThen_ok, Sem.run_pure]

theorem rowL_ok {p : List UInt8} {n : Nat} {tx : Bool} {l : List Nat} {b : List UInt8} (h : rowL p n tx = (l, b, 0)) :
    l.length = n ∧ Small l ∧ (untieL p).2 = 0 ∧ (if tx then textS (numsS n ((untieL p).1, false)).2 else ([], (numsS n ((untieL p).1, false)).2)) = (b, ([], false)) ∧ l = (numsS n ((untieL p).1, false)).1 := by
  unfold rowL rowR at h
  by_cases h0 : (untieL p).2 ≠ 0
  · rw [if_pos h0] at h
    simp only [Prod.mk.injEq] at h
    exact (h0 h.2.2).elim
  · rw [if_neg h0] at h
    generalize (if tx then textS (numsS n ((untieL p).1, false)).2 else ([], (numsS n ((untieL p).1, false)).2)) = z at h ⊢
    obtain ⟨z1, z2⟩ := z
    dsimp only at h
    by_cases h1 : z2 = ([], false)
    · rw [if_pos h1] at h
      simp only [Prod.mk.injEq, and_true] at h
      obtain ⟨rfl, rfl⟩ := h
      exact ⟨numsS_len _ _, numsS_small _ _, by simpa using h0, by rw [h1], rfl⟩
    · rw [if_neg h1] at h
      simp at h
theorem numsS_st_len' (n : Nat) (s : St) : (numsS n s).2.1.length ≤ s.1.length := numsS_st_len n s
theorem textS_txt_len (s : St) : (textS s).1.length ≤ s.1.length := by
  have h := numS_len s
  unfold textS
  split
  · simp
  · split
    · simp
    · simp only [List.length_take]; omega
theorem rowL_len {p : List UInt8} {n : Nat} {tx : Bool} : (rowL p n tx).2.1.length ≤ p.length := by
  unfold rowL
  by_cases h0 : (untieL p).2 ≠ 0
  · rw [if_pos h0]; exact Nat.zero_le _
  · rw [if_neg h0]
    unfold rowR
    have h1 := untieL_len p
    have h2 := numsS_st_len n ((untieL p).1, false)
    dsimp only at h2
    have h3 : (if tx then textS (numsS n ((untieL p).1, false)).2 else ([], (numsS n ((untieL p).1, false)).2)).1.length ≤ p.length := by
      cases tx
      · exact Nat.zero_le _
      · have h3 := textS_txt_len (numsS n ((untieL p).1, false)).2
        rw [if_pos rfl]
        omega
    generalize (if tx then textS (numsS n ((untieL p).1, false)).2 else ([], (numsS n ((untieL p).1, false)).2)) = z at h3 ⊢
    split
    · exact h3
    · exact Nat.zero_le _

end Go.Proofs.YtmmcmldcbdaooaaDoor
