/- Plain: a crash mixes, byte by byte, what a sector had with what was written. -/
import Derived.Test.YtoegnlabneafkaaSlabMath
namespace Quad.Slab

/-- each byte is one of the candidates' -/
def Mix (M : List Bytes) (p : Bytes) : Prop := ∀ (j : Nat) (b : UInt8), p[j]? = some b → ∃ q ∈ M, q[j]? = some b

theorem Mix.mem {M : List Bytes} {p : Bytes} (h : p ∈ M) : Mix M p := fun _ _ hb => ⟨p, h, hb⟩

theorem splice_get {a b : Bytes} {c : Nat} (hl : a.length = b.length) (j : Nat) : (a.take c ++ b.drop c)[j]? = if j < c then a[j]? else b[j]? := by
  by_cases hj : j < c
  · rw [if_pos hj]
    by_cases hja : j < a.length
    · rw [List.getElem?_append_left (by rw [List.length_take]; omega), List.getElem?_take, if_pos hj]
    · rw [List.getElem?_eq_none (by rw [List.length_append, List.length_take, List.length_drop]; omega), List.getElem?_eq_none (by omega)]
  · rw [if_neg hj]
    by_cases hc : c ≤ a.length
    · rw [List.getElem?_append_right (by rw [List.length_take]; omega), List.length_take, List.getElem?_drop]
      congr 1
      omega
    · rw [List.getElem?_eq_none (by rw [List.length_append, List.length_take, List.length_drop]; omega), List.getElem?_eq_none (by omega)]

theorem Mix.torn {M : List Bytes} {p q : Bytes} (hp : Mix M p) (hq : q ∈ M) (h1 : p.length = q.length) (f c : Nat) : Mix M (torn f c p q) := by
  intro j b hb
  have hq' := Mix.mem hq
  unfold Quad.Slab.torn at hb
  split at hb <;> split at hb <;> rw [splice_get (by omega)] at hb <;> split at hb <;> first | exact hp j b hb | exact hq' j b hb

theorem crash_mix (fates : Bytes) (c k : Nat) (M : List Bytes) (hc : c ≤ 128) : ∀ (way : List (Nat × Bytes)) (n : Nat) (d : List Bytes), (∀ w ∈ way, w.2.length = 128 ∧ w.1 < d.length ∧ (w.1 = k → w.2 ∈ M)) → (∀ p ∈ d, p.length = 128) → Mix M (d.getD k []) → Mix M ((crashD fates c n way d).getD k [])
  | [], _, d, _, _, h => h
  | w :: r, n, d, hw, hd, h => by
    obtain ⟨w1, w2, w3⟩ := hw w List.mem_cons_self
    have hlen : (d.getD w.1 []).length = 128 := hd _ (by rw [List.getD_eq_getElem?_getD, List.getElem?_eq_getElem w2]; simp)
    unfold crashD
    refine crash_mix fates c k M hc r (n + 1) _ (fun x hx => ?_) (fun p hp => ?_) ?_
    · obtain ⟨x1, x2, x3⟩ := hw x (List.mem_cons_of_mem _ hx)
      exact ⟨x1, by rw [List.length_set]; exact x2, x3⟩
    · rcases List.mem_or_eq_of_mem_set hp with hp | rfl
      · exact hd p hp
      · exact torn_length hlen w1 hc
    · by_cases e : w.1 = k
      · subst e
        rw [show (d.set w.1 (torn (fateOf fates n) c (d.getD w.1 []) w.2)).getD w.1 [] = torn (fateOf fates n) c (d.getD w.1 []) w.2 from by simp [List.getD_eq_getElem?_getD, w2]]
        exact h.torn (w3 rfl) (by rw [hlen, w1]) _ _
      · rw [show (d.set w.1 (torn (fateOf fates n) c (d.getD w.1 []) w.2)).getD k [] = d.getD k [] from by simp [List.getD_eq_getElem?_getD, List.getElem?_set, e]]
        exact h
end Quad.Slab
