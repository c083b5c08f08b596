/- Plain: what the book of layer 18 does, node by node. -/
namespace Quad.Lease

structure Nd where
  st : Nat
  life : Nat
  heard : Nat
  until' : Nat
  deriving DecidableEq, Inhabited

def zero : Nd := ⟨0, 0, 0, 0⟩
def later8 (now : Nat) : Nat := min (now + 8) 4294967295
def okNd (n : Nd) : Prop := n.st ≤ 2 ∧ n.life ≤ 4294967295 ∧ n.heard ≤ 4294967295 ∧ n.until' ≤ 4294967295

def hear1 (n : Nd) (now life : Nat) : Nd × Bool × Bool :=
  if life < n.life ∨ (life = n.life ∧ n.st = 0) then (n, false, false)
  else if life = n.life then (⟨n.st, n.life, now, n.until'⟩, false, false)
  else (⟨1, life, now, max n.until' (later8 now)⟩, true, decide (n.st ≠ 0))

def hearN (l : List Nd) (i : Int) (now life : Nat) : List Nd × Bool × Bool :=
  if i < 0 ∨ (l.length : Int) ≤ i then (l, false, false)
  else (l.set i.toNat (hear1 (l.getD i.toNat zero) now life).1, (hear1 (l.getD i.toNat zero) now life).2)

/-- one node's tick: the node then, does it go on, is it Away now -/
def tick1 (n : Nd) (now : Nat) : Nd × Bool × Bool :=
  if n.st = 1 ∧ ¬ (n.heard ≤ now ∧ 4 ≤ now - n.heard) then (⟨1, n.life, n.heard, max n.until' (later8 now)⟩, true, false)
  else if n.st = 0 ∨ ¬ (n.st = 1 ∨ n.st = 2) then (n, false, false)
  else if n.until' < now then (⟨0, n.life, n.heard, n.until'⟩, false, true)
  else (⟨2, n.life, n.heard, n.until'⟩, false, false)

/-- of a list of nodes, numbered from k on: the nodes, the grants, who is Away now -/
def tickN : List Nd → Nat → Nat → List Nd × List (Nat × Nat) × List Nat
  | [], _, _ => ([], [], [])
  | n :: l, k, now =>
    ((tick1 n now).1 :: (tickN l (k + 1) now).1,
     (if (tick1 n now).2.1 then [(k, (tick1 n now).1.until')] else []) ++ (tickN l (k + 1) now).2.1,
     (if (tick1 n now).2.2 then [k] else []) ++ (tickN l (k + 1) now).2.2)

theorem tickN_length : ∀ (l : List Nd) (k now : Nat), (tickN l k now).1.length = l.length
  | [], _, _ => rfl
  | n :: l, k, now => by simp [tickN, tickN_length l]

theorem tickN_append : ∀ (l l' : List Nd) (k now : Nat), tickN (l ++ l') k now =
    ((tickN l k now).1 ++ (tickN l' (k + l.length) now).1, (tickN l k now).2.1 ++ (tickN l' (k + l.length) now).2.1, (tickN l k now).2.2 ++ (tickN l' (k + l.length) now).2.2)
  | [], l', k, now => by simp [tickN]
  | n :: l, l', k, now => by
    simp only [List.cons_append, tickN, tickN_append l l' (k + 1) now, List.length_cons]
    rw [show k + 1 + l.length = k + (l.length + 1) from by omega]
    simp [List.append_assoc]

theorem later8_le (now : Nat) : later8 now ≤ 4294967295 := Nat.min_le_right _ _

theorem ok_hear1 (n : Nd) (now life : Nat) (h : okNd n) (hn : now ≤ 4294967295) (hl : life ≤ 4294967295) : okNd (hear1 n now life).1 := by
  have := later8_le now
  obtain ⟨h1, h2, h3, h4⟩ := h
  unfold hear1
  split
  · exact ⟨h1, h2, h3, h4⟩
  · split
    · exact ⟨h1, h2, hn, h4⟩
    · exact ⟨by simp, hl, hn, Nat.max_le.2 ⟨h4, this⟩⟩

theorem ok_tick1 (n : Nd) (now : Nat) (h : okNd n) : okNd (tick1 n now).1 := by
  have := later8_le now
  obtain ⟨h1, h2, h3, h4⟩ := h
  unfold tick1
  split
  · exact ⟨by simp, h2, h3, Nat.max_le.2 ⟨h4, this⟩⟩
  · split
    · exact ⟨h1, h2, h3, h4⟩
    · split
      · exact ⟨by simp, h2, h3, h4⟩
      · exact ⟨by simp, h2, h3, h4⟩
end Quad.Lease
