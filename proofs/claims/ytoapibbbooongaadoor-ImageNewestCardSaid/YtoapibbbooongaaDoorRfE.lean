/- The document's slab: a crash. -/
import Derived.Test.YtoapibbbooongaaDoorRfD
import Derived.Deep.CutRange
namespace Go.Proofs.YtoapibbbooongaaDoor
open Go.RowKit Go.Quad _root_.Quad.Slab

theorem torn_get {f c : Nat} {old p : Bytes} (h1 : old.length = 128) (h2 : p.length = 128) (hc : c ≤ 128) (j : Nat) (hj : j < 128) :
    (torn f c old p).getD j 0 = if f = 1 ∨ (f = 2 ∧ j < c) ∨ (f = 3 ∧ ¬ j < c) then p.getD j 0 else old.getD j 0 := by
  unfold torn
  simp only [List.getD_eq_getElem?_getD]
  have hl : (if f = 1 ∨ f = 2 then p.take c else old.take c).length = c := by split <;> simp [h1, h2] <;> omega
  by_cases hjc : j < c
  · rw [List.getElem?_append_left (by omega)]
    by_cases hf : f = 1 ∨ f = 2
    · rw [if_pos hf, if_pos (by omega), List.getElem?_take, if_pos hjc]
    · rw [if_neg hf, if_neg (by omega), List.getElem?_take, if_pos hjc]
  · rw [List.getElem?_append_right (by omega), hl]
    by_cases hf : f = 1 ∨ f = 3
    · rw [if_pos hf, if_pos (by omega), List.getElem?_drop, show c + (j - c) = j from by omega]
    · rw [if_neg hf, if_neg (by omega), List.getElem?_drop, show c + (j - c) = j from by omega]

/-- within a sector: so far the new one, then the old one -/
def RcIn (w3 : World) (pb pc : Nat) (T old : Bytes) (iv : Value) (wi : World) : Prop :=
  ∃ j : Nat, iv = .int .i64 (j : Int) ∧ j ≤ 128 ∧ OB wi w3.heap.size 5 (.slice (some ⟨pb, 0, none⟩) 128 pc) (T.take j ++ old.drop j) ∧ Below w3.heap.size w3 wi

theorem inner_facts {w3 wi : World} {pb pc : Nat} {f c : Nat} {old p : Bytes} {bv ofv cv j : Nat} (hO : OB wi w3.heap.size 5 (.slice (some ⟨pb, 0, none⟩) 128 pc) ((torn f c old p).take j ++ old.drop j)) (hB : Below w3.heap.size w3 wi)
    (h1 : old.length = 128) (h2 : p.length = 128) (hp : BS w3 (some ⟨bv, ofv, none⟩) cv p) (hc : c ≤ 128) (hj : j < 128) :
    (wi.cell? ⟨pb, j, none⟩ = some (.int .u8 ((old.getD j 0).toNat : Int)) ∧ wi.frozen? ⟨pb, j, none⟩ = false) ∧
    (∃ xb : Nat, (p.getD j 0).toNat = xb ∧ wi.cell? ⟨bv, ofv + j, none⟩ = some (.int .u8 (xb : Int)) ∧ (xb : Int) ≤ 255) ∧
    (f = 1 ∨ (f = 2 ∧ j < c) ∨ (f = 3 ∧ ¬ j < c) → ∀ xb : Nat, (p.getD j 0).toNat = xb → OB (wi.setCell ⟨pb, j, none⟩ (.int .u8 (xb : Int))) w3.heap.size 5 (.slice (some ⟨pb, 0, none⟩) 128 pc) ((torn f c old p).take (j + 1) ++ old.drop (j + 1))) ∧
    (¬ (f = 1 ∨ (f = 2 ∧ j < c) ∨ (f = 3 ∧ ¬ j < c)) → (torn f c old p).take (j + 1) ++ old.drop (j + 1) = (torn f c old p).take j ++ old.drop j) := by
  have hT := torn_length (fate := f) h1 h2 hc
  have hg := torn_get (f := f) h1 h2 hc j hj
  have hlen : ((torn f c old p).take j ++ old.drop j).length = 128 := by simp [hT, h1]; omega
  have hget : ((torn f c old p).take j ++ old.drop j)[j]? = some (old.getD j 0) := by
    rw [List.getElem?_append_right (by simp [hT]; omega), List.getElem?_drop, List.length_take, hT, show j + (j - min j 128) = j from by omega, List.getD_eq_getElem?_getD, List.getElem?_eq_getElem (by omega)]
    rfl
  have hsucc : ∀ x : UInt8, (torn f c old p).getD j 0 = x → (torn f c old p).take (j + 1) ++ old.drop (j + 1) = ((torn f c old p).take j ++ old.drop j).set j x := by
    intro x hx
    rw [List.set_append_right _ _ (by simp [hT]; omega), List.length_take, hT, show j - min j 128 = 0 from by omega, List.drop_eq_getElem_cons (show j < old.length by omega), List.set_cons_zero, List.take_succ_eq_append_getElem (by omega)]
    rw [List.getD_eq_getElem?_getD, List.getElem?_eq_getElem (by omega)] at hx
    simp only [Option.getD_some] at hx
    rw [hx]; simp
  unfold OB at hO
  rw [hlen] at hO
  obtain ⟨q1, q2⟩ := row_at hO j hj (u := u8v (old.getD j 0)) (by rw [List.getElem?_map, hget]; rfl)
  obtain ⟨b, off, e, hcell⟩ := BS.at (hp) (by omega)
  cases e
  have hpj := cell_later hB (hcell j (by omega))
  have hpg : p.getD j 0 = p[j]'(by omega) := by rw [List.getD_eq_getElem?_getD, List.getElem?_eq_getElem (by omega)]; rfl
  refine ⟨⟨q1, q2⟩, ⟨_, rfl, by rw [hpg]; exact hpj, by have := (p.getD j 0).toNat_lt; omega⟩, fun h xb hxb => ?_, fun h => ?_⟩
  · rw [if_pos h] at hg
    rw [hsucc _ hg]
    unfold OB
    rw [List.length_set, hlen, List.map_set]
    have := (row_store hO j (.int .u8 (xb : Int))).1
    rw [← hxb] at this ⊢
    exact this
  · rw [if_neg h] at hg
    rw [hsucc _ hg]
    exact List.ext_getElem? fun n => by
      by_cases hn : n = j
      · subst hn; rw [List.getElem?_set_self (by omega), hget]
      · rw [List.getElem?_set_ne (fun h => hn h.symm)]

def RcrRel (fates : Bytes) (c : Nat) (s : Sl) (w : World) (F : Nat → Prop) (B g dn dc : Nat) (wv iv : Value) (wr : World) : Prop :=
  ∃ k : Nat, iv = .int .i64 (k : Int) ∧ k ≤ s.way.length ∧ IsRf wr (Fnew F w.heap.size wr) B g dn dc wv { s with done := crD fates c s k } ∧ Chg [g, dn] w wr

end Go.Proofs.YtoapibbbooongaaDoor
