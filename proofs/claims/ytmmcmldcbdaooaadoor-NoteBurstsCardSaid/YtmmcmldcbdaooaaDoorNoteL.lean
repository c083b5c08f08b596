/- The walks of layer 4: the document's numbers, its forms. -/
import Derived.Test.YtmmcmldcbdaooaaDoorNoteD
import Derived.Test.YtmmcmldcbdaooaaDoorRowOps
import Derived.Deep.Cut
import Derived.Deep.CutRange
namespace Go.Proofs.YtmmcmldcbdaooaaDoor
open Go.RowKit Go.Quad _root_.Quad _root_.Quad.Ink

def NrRel (w : World) (what : Nat) (L : List Nat) (pv iv : Value) (wr : World) : Prop :=
  ∃ k : Nat, iv = .int .i64 (k : Int) ∧ k ≤ L.length ∧ OB wr w.heap.size 5 pv (numL what ++ rowN (L.take k)) ∧ Below w.heap.size w wr

set_option maxHeartbeats 1000000 in
theorem refnums_calls (w : World) (what : Nat) (wv : Int) (hwv : wv = (what : Int)) (a : Option Addr) (cap n : Nat) (L : List Nat) (hn : L.length = n) (hw : what < 128) (hl : L.length ≤ 1000) (hL : Small L) (hc : CS w a cap 1 (L.map u64v)) :
    Calls Tryd.prog 43 #[.int .u64 wv, .slice a n cap] w (RetB w.heap.size w (numL what ++ rowN L)) := by
  subst hwv hn
  have hm : L.length ≤ 9223372036854775807 := by omega
  have Hl := hid hl
  have HL := hid hL
  have Hc := hid hc
  have Hw := hid hw
  clear hl hL hc hw
  go_enter Tryd.func43, Tryd.ntmps43
  go_wp2_with fail
  refine (refnum_calls what (by have := Hw.out; omega) w).mono ?_
  rintro e w1 ⟨v, rfl, ho, hb⟩
  have O1 := hid ho
  have B1 := hid hb
  clear ho hb
  go_wp2_with fail
  go_loopw [5, 12] (fun pv iv wr => NrRel w what L pv iv wr) (fun _ iv _ => L.length - (intOf iv).toNat)
  case atStart => exact ⟨0, rfl, Nat.zero_le _, by simpa [rowN] using O1.out, B1.out⟩
  case round =>
    obtain ⟨k, rfl, hk, ho, hb⟩ := hrel
    have O := hid ho
    have B := hid hb
    obtain ⟨ap, np, cp, rfl, _, _, _⟩ := ob_n ho
    clear ho hb
    by_cases hlt : k < L.length
    · obtain ⟨b, off, rfl, hcell⟩ := (Hc.out.below B.out).at (by simp; omega)
      have d := hcell k (u64v L[k]) (by simp [hlt])
      have hn := HL.out _ (List.getElem_mem hlt)
      have hln : (numL what ++ rowN (L.take k)).length ≤ 20000 := by
        have := rowN_len _ (Small.take HL.out k)
        have := Hl.out
        rw [List.length_append, numL_small Hw.out]
        rw [List.length_take] at *
        simp
        omega
      have e1 : rowN (L.take (k + 1)) = rowN (L.take k) ++ numL L[k] := by rw [List.take_succ_eq_append_getElem hlt, rowN_append]; simp [rowN]
      have E1 := hid e1
      have Hln := hid hln
      unfold u64v at d
      generalize L[k] = n at d hn E1
      have Hn := hid hn
      have hn10 := hid (numL_len10 hn)
      clear e1 hcell hln hn
      have hlt' : (k : Int) < (L.length : Int) := by omega
      generalize hX : numL what ++ rowN (L.take k) = X at O Hln
      have HX := hid hX
      clear hX
      go_wp2_with fail
      refine (refnum_calls n Hn.out wr).mono ?_
      rintro e w2 ⟨v2, rfl, ho2, hb2⟩
      obtain ⟨a2, c2, rfl, hs2, _⟩ := ho2.bs
      have S2 := hid hs2
      have O2 := hid (O.out.below hb2)
      have B2 := hid (B.out.trans (hb2.mono B.out.size))
      clear ho2 hb2 hs2
      go_wp2_with (at_builtin; refine wpList_append_b (.tmp 16) (.tmp 18) _ rfl rfl w.heap.size 5 info_u8 under_bytes _ _ O2.out rfl S2.out rfl (by have := Hln.out; have := hn10.out; omega) B2.out.size ?_; intro v5 w3 hown1 hg1 hb1 _; have O3 := hid hown1; have B3 := hid (B2.out.trans hb1); clear hown1 hg1 hb1)
      have R1 : NrRel w what L v5 (.int .i64 ((k : Int) + 1)) w3 := ⟨k + 1, by go_num, by omega, by rw [E1.out, ← List.append_assoc, HX.out]; exact O3.out, B3.out⟩
      refine ⟨?_, by simp [intOf]; omega⟩
      first | exact R1 | ((repeat apply Exists.intro); refine ⟨R1, ?_⟩; and_intros <;> rfl)
    · have hlt' : ¬ ((k : Int) < (L.length : Int)) := by omega
      have hX : numL what ++ rowN (L.take k) = numL what ++ rowN L := by rw [List.take_of_length_le (by omega)]
      have hO := O.out
      rw [hX] at hO
      have O2 := hid hO
      clear hX hO O
      go_wp2_with fail
      go_ret
      exact ⟨_, rfl, O2.out, B.out⟩
end Go.Proofs.YtmmcmldcbdaooaaDoor
