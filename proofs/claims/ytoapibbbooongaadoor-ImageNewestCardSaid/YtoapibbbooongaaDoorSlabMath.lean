/- Plain: a slab: what is done, what is under way, the power. -/
namespace Quad.Slab

abbrev Bytes := List UInt8

structure Sl where
  done : List Bytes
  way : List (Nat × Bytes)
  off : Bool
  armed : Nat
  steps : Nat

def pad (t : Bytes) : Bytes := t ++ List.replicate (128 - t.length) 0
theorem pad_length {t : Bytes} (h : t.length ≤ 128) : (pad t).length = 128 := by simp [pad]; omega

def newL (n : Nat) : Sl := ⟨List.replicate n (List.replicate 128 0), [], false, 0, 0⟩

/-- one more; is the power still on? -/
def stepL (s : Sl) : Sl := { s with steps := s.steps + 1, armed := s.armed - 1, off := if 0 < s.armed then decide (s.armed = 1) else s.off }

/-- why there is no such sector -/
def hasL (s : Sl) (i : Int) (n : Nat) : Nat := if i < 0 ∨ (s.done.length : Int) ≤ i then 1 else if 128 < n then 3 else if s.off then 13 else 0

def writeL (s : Sl) (i : Int) (t : Bytes) : Sl × Nat :=
  if hasL s i t.length ≠ 0 then (s, hasL s i t.length) else ({ stepL s with way := s.way ++ [(i.toNat, pad t)] }, if (stepL s).off then 13 else 0)

/-- what a sector reads as -/
def seenL (s : Sl) (i : Nat) : Bytes := s.way.foldl (fun p w => if w.1 = i then w.2 else p) (s.done.getD i [])

def readL (s : Sl) (i : Int) : Bytes × Nat := if hasL s i 0 ≠ 0 then ([], hasL s i 0) else (seenL s i.toNat, 0)

def flushL (s : Sl) : Sl × Nat :=
  if s.off then (s, 13) else if (stepL s).off then (stepL s, 13) else ({ stepL s with done := s.way.foldl (fun d w => d.set w.1 w.2) s.done, way := [] }, 0)

def armL (s : Sl) (n : Int) : Sl × Nat := if n < 0 then (s, 1) else ({ s with armed := n.toNat }, 0)

def cutOf (cut : Int) : Nat := (min (max cut 0) 128).toNat

/-- what becomes of one write -/
def torn (fate : Nat) (c : Nat) (old fresh : Bytes) : Bytes :=
  (if fate = 1 ∨ fate = 2 then fresh.take c else old.take c) ++ (if fate = 1 ∨ fate = 3 then fresh.drop c else old.drop c)

def fateOf (fates : Bytes) (k : Nat) : Nat := if k < fates.length then (fates.getD k 0).toNat % 4 else 0

def crashD (fates : Bytes) (c : Nat) : Nat → List (Nat × Bytes) → List Bytes → List Bytes
  | _, [], d => d
  | k, w :: r, d => crashD fates c (k + 1) r (d.set w.1 (torn (fateOf fates k) c (d.getD w.1 []) w.2))

def crashL (s : Sl) (fates : Bytes) (cut : Int) : Sl := { s with done := crashD fates (cutOf cut) 0 s.way s.done, way := [], off := false, armed := 0 }

structure Ok (s : Sl) : Prop where
  sec : ∀ p ∈ s.done, p.length = 128
  wsec : ∀ w ∈ s.way, w.2.length = 128 ∧ w.1 < s.done.length
  small : s.done.length ≤ 4096
  wsmall : s.way.length ≤ 1000000
  ssmall : s.steps ≤ 1000000
  asmall : s.armed ≤ 9223372036854775807

theorem torn_length {fate c : Nat} {old fresh : Bytes} (h1 : old.length = 128) (h2 : fresh.length = 128) (hc : c ≤ 128) : (torn fate c old fresh).length = 128 := by
  unfold torn
  rw [List.length_append]
  split <;> split <;> simp [List.length_take, List.length_drop, h1, h2] <;> omega
theorem cutOf_le (cut : Int) : cutOf cut ≤ 128 := by unfold cutOf; omega
theorem seen_foldl (i : Nat) : ∀ (l : List (Nat × List UInt8)) (p : List UInt8), (∀ m (hm : m < l.length), l[m].1 ≠ i) → l.foldl (fun p w => if w.1 = i then w.2 else p) p = p
  | [], p, _ => rfl
  | x :: l, p, h => by
    have h0 : x.1 ≠ i := h 0 (by simp)
    rw [List.foldl_cons, if_neg h0]
    exact seen_foldl i l p fun m hm => h (m + 1) (by simpa using hm)
theorem seen_none {s : Sl} {i : Nat} (hi : i < s.done.length) (h : ∀ m (hm : m < s.way.length), s.way[m].1 ≠ i) : seenL s i = s.done[i] := by
  unfold seenL
  rw [seen_foldl i s.way _ h]
  simp [List.getElem?_eq_getElem hi]
theorem seen_found {s : Sl} {i j : Nat} (hj : j < s.way.length) (he : s.way[j].1 = i) (h : ∀ m (hm : m < s.way.length), j < m → s.way[m].1 ≠ i) : seenL s i = s.way[j].2 := by
  unfold seenL
  have e : ∀ p, s.way.foldl (fun p w => if w.1 = i then w.2 else p) p = (s.way.take (j + 1) ++ s.way.drop (j + 1)).foldl (fun p w => if w.1 = i then w.2 else p) p := fun p => by rw [List.take_append_drop]
  rw [e, List.foldl_append, seen_foldl i (s.way.drop (j + 1))]
  · rw [List.take_succ_eq_append_getElem hj, List.foldl_append]
    simp only [List.foldl_cons, List.foldl_nil]
    rw [if_pos he]
  · intro m hm
    rw [List.getElem_drop]
    exact h _ (by simp at hm; omega) (by omega)

/-! the document's example -/
def aw1 : Sl := (writeL (newL 2) 0 [1, 2]).1
def aw2 : Sl := (flushL aw1).1
def aw3 : Sl := (writeL aw2 0 [3, 4]).1
def aw4 : Sl := crashL aw3 [2] 1
theorem aw_codes : (writeL (newL 2) 0 [1, 2]).2 = 0 ∧ (flushL aw1).2 = 0 ∧ (writeL aw2 0 [3, 4]).2 = 0 ∧ (readL aw4 0).2 = 0 := by decide +kernel
theorem aw_small : (newL 2).steps < 1000000 ∧ (newL 2).way.length < 1000000 ∧ aw1.steps < 1000000 ∧ aw2.steps < 1000000 ∧ aw2.way.length < 1000000 := by decide +kernel
theorem aw_end : (readL aw4 0).1 = 3 :: 2 :: List.replicate 126 0 := by decide +kernel
/-! a slab of one sector -/
theorem te1 (p : Bytes) (h : p.length ≤ 128) : writeL (newL 1) 0 p = (⟨[List.replicate 128 0], [(0, pad p)], false, 0, 1⟩, 0) := by
  have e : hasL (newL 1) 0 p.length = 0 := by unfold hasL newL; simp; omega
  unfold writeL; rw [e]; simp [stepL, newL]
theorem te2 (z q : Bytes) (n : Nat) : flushL ⟨[z], [(0, q)], false, 0, n⟩ = (⟨[q], [], false, 0, n + 1⟩, 0) := by simp [flushL, stepL]
theorem te3 (z p : Bytes) (n : Nat) (h : p.length ≤ 128) : writeL ⟨[z], [], false, 0, n⟩ 0 p = (⟨[z], [(0, pad p)], false, 0, n + 1⟩, 0) := by
  have e : hasL ⟨[z], [], false, 0, n⟩ 0 p.length = 0 := by unfold hasL; simp; omega
  unfold writeL; rw [e]; simp [stepL]
theorem te4 (z q : Bytes) (n : Nat) (f : UInt8) (cut : Int) : crashL ⟨[z], [(0, q)], false, 0, n⟩ [f] cut = ⟨[torn (f.toNat % 4) (cutOf cut) z q], [], false, 0, n⟩ := by simp [crashL, crashD, fateOf]
theorem te5 (z : Bytes) (n : Nat) : readL ⟨[z], [], false, 0, n⟩ 0 = (z, 0) := by simp [readL, hasL, seenL]
end Quad.Slab
