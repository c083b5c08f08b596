/- The scripts of layer 5; what is flushed is kept. -/
import Derived.Test.YtoapibbbooongaaDoorSlabG
import Derived.Test.YtoapibbbooongaaDoorLib
namespace Go.Proofs.YtoapibbbooongaaDoor
open Go.RowKit Go.Quad _root_.Quad.Slab

/-! ### the scripts of this layer -/
structure OpD where
  d : Nat
  i : Int
  a : Option Addr
  cap : Nat
  t : List UInt8

def opV (o : OpD) : List Value := [.int .u8 (o.d : Int), .int .i64 o.i, .slice o.a o.t.length o.cap]
theorem opV_length (o : OpD) : (opV o).length = 3 := rfl
def OkOp (w : World) (o : OpD) : Prop := o.d < 256 ∧ (-9223372036854775808 ≤ o.i ∧ o.i ≤ 9223372036854775807) ∧ BS w o.a o.cap o.t

/-! ### one sector is kept -/
structure Keeps (q : Bytes) (n : Nat) (s : Sl) : Prop where
  len : s.done.length = 8
  at3 : s.done.getD 3 [] = q
  way : ∀ w ∈ s.way, w.1 ≠ 3
  steps : s.steps ≤ n + 2
  ways : s.way.length ≤ n

theorem Keeps.more {q : Bytes} {n : Nat} {s : Sl} (h : Keeps q n s) : Keeps q (n + 1) s := ⟨h.len, h.at3, h.way, by have := h.steps; omega, by have := h.ways; omega⟩

theorem Keeps.write {q : Bytes} {n : Nat} {s : Sl} (h : Keeps q n s) (i : Int) (t : Bytes) (hi : i ≠ 3) : Keeps q (n + 1) (writeL s i t).1 := by
  unfold writeL
  split
  · exact h.more
  · rename_i h0
    have h0 : hasL s i t.length = 0 := by simpa using h0
    have hin := hasL_in h0
    refine ⟨h.len, h.at3, ?_, by have := h.steps; show s.steps + 1 ≤ _; omega, by have := h.ways; simp; omega⟩
    intro w hw
    rcases List.mem_append.1 hw with hw | hw
    · exact h.way w hw
    · rw [List.mem_singleton] at hw
      subst hw
      show i.toNat ≠ 3
      omega
theorem Keeps.arm {q : Bytes} {n : Nat} {s : Sl} (h : Keeps q n s) (i : Int) : Keeps q (n + 1) (armL s i).1 := by
  unfold armL
  split
  · exact h.more
  · exact ⟨h.len, h.at3, h.way, by have := h.steps; show s.steps ≤ _; omega, by have := h.ways; show s.way.length ≤ _; omega⟩
theorem foldl_set_keep (i : Nat) : ∀ (l : List (Nat × Bytes)) (D : List Bytes), (∀ w ∈ l, w.1 ≠ i) → (l.foldl (fun d w => d.set w.1 w.2) D).getD i [] = D.getD i [] ∧ (l.foldl (fun d w => d.set w.1 w.2) D).length = D.length
  | [], D, _ => ⟨rfl, rfl⟩
  | x :: l, D, h => by
    have ih := foldl_set_keep i l (D.set x.1 x.2) fun w hw => h w (List.mem_cons_of_mem _ hw)
    rw [List.foldl_cons]
    refine ⟨ih.1.trans ?_, ih.2.trans (by simp)⟩
    rw [List.getD_eq_getElem?_getD, List.getElem?_set_ne (h x (List.mem_cons_self ..)), List.getD_eq_getElem?_getD]
theorem crashD_keep (fates : Bytes) (c i : Nat) : ∀ (l : List (Nat × Bytes)) (j : Nat) (D : List Bytes), (∀ w ∈ l, w.1 ≠ i) → (crashD fates c j l D).getD i [] = D.getD i []
  | [], _, D, _ => rfl
  | x :: l, j, D, h => by
    unfold crashD
    rw [crashD_keep fates c i l (j + 1) _ fun w hw => h w (List.mem_cons_of_mem _ hw)]
    rw [List.getD_eq_getElem?_getD, List.getElem?_set_ne (h x (List.mem_cons_self ..)), List.getD_eq_getElem?_getD]
theorem Keeps.flush {q : Bytes} {n : Nat} {s : Sl} (h : Keeps q n s) : Keeps q (n + 1) (flushL s).1 := by
  unfold flushL
  split
  · exact h.more
  · split
    · exact ⟨h.len, h.at3, h.way, by have := h.steps; show s.steps + 1 ≤ _; omega, by have := h.ways; show s.way.length ≤ _; omega⟩
    · have hk := foldl_set_keep 3 s.way s.done h.way
      exact ⟨hk.2.trans h.len, hk.1.trans h.at3, by simp, by have := h.steps; show s.steps + 1 ≤ _; omega, by simp⟩
theorem Keeps.end' {q : Bytes} {n : Nat} {s : Sl} (h : Keeps q n s) (fates : Bytes) (cut : Int) : readL (crashL s fates cut) 3 = (q, 0) := by
  have hl : (crashL s fates cut).done.length = 8 := (crashD_length fates (cutOf cut) s.way 0 s.done).trans h.len
  have h0 : hasL (crashL s fates cut) 3 0 = 0 := by
    unfold hasL
    rw [if_neg (by rw [hl]; omega), if_neg (by omega), if_neg (by simp [crashL])]
  unfold readL
  rw [if_neg (by rw [h0]; simp)]
  unfold seenL
  show ((crashD fates (cutOf cut) 0 s.way s.done).getD 3 [], 0) = _
  rw [crashD_keep fates (cutOf cut) 3 s.way 0 s.done h.way, h.at3]
theorem keeps_start (p : Bytes) (h : p.length ≤ 128) : (writeL (newL 8) 3 p).2 = 0 ∧ (flushL (writeL (newL 8) 3 p).1).2 = 0 ∧ Keeps (pad p) 0 (flushL (writeL (newL 8) 3 p).1).1 ∧ (writeL (newL 8) 3 p).1.steps < 1000000 := by
  have e : hasL (newL 8) 3 p.length = 0 := by unfold hasL newL; simp; omega
  have e1 : writeL (newL 8) 3 p = ({ stepL (newL 8) with way := [(3, pad p)] }, 0) := by unfold writeL; rw [e]; simp [stepL, newL]
  rw [e1]
  refine ⟨rfl, by simp [flushL, stepL, newL], ?_, by simp [stepL, newL]⟩
  have e2 : (flushL { stepL (newL 8) with way := [(3, pad p)] }).1 = ⟨(List.replicate 8 (List.replicate 128 0)).set 3 (pad p), [], false, 0, 2⟩ := by simp [flushL, stepL, newL]
  rw [e2]
  exact ⟨by simp, by simp, by simp, by simp, by simp⟩
end Go.Proofs.YtoapibbbooongaaDoor
