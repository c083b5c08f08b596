/- A map by uint32 that holds a list by rising keys. -/
import Derived.Test.YtoapibbbooongaaDoorImgM
import Derived.Test.YtoapibbbooongaaDoorLib
import Derived.Maps.OwnSet
import Derived.Maps.Own
namespace Go.Proofs.YtoapibbbooongaaDoor
open Go.RowKit Go.Quad _root_.Quad

def idK (id : Nat) : Lit := .int .u32 (id : Int)
theorem idK_ne {a b : Nat} (h : a ≠ b) : idK a ≠ idK b := by
  intro e
  unfold idK at e
  simp only [Lit.int.injEq, true_and] at e
  omega
theorem idK_key (a : Nat) : WideAt.IsKeyLit (idK a) := trivial
/-- a map that holds just these, by their keys -/
structure MapOf {α : Type} (key : α → Nat) (dat : α → DataW Unit) (D : DataW Unit) (L : List α) : Prop where
  tidy : Maps.Tidy D
  has : ∀ id : Nat, Maps.has D (idK id) = L.any (fun j => key j == id)
  at' : ∀ j ∈ L, ∀ z, D.atKey (idK (key j)) z = dat j
  size : Maps.size D = L.length
theorem MapOf.nil {α : Type} (key : α → Nat) (dat : α → DataW Unit) : MapOf key dat (.map []) [] := ⟨Maps.tidy_empty, fun _ => rfl, by simp, rfl⟩
theorem any_key {α : Type} {key : α → Nat} {L : List α} {id : Nat} : L.any (fun j => key j == id) = true ↔ ∃ j ∈ L, key j = id := by simp
theorem any_noKey {α : Type} {key : α → Nat} {L : List α} {id : Nat} : L.any (fun j => key j == id) = false ↔ ∀ j ∈ L, key j ≠ id := by simp
theorem setK_length {α : Type} (key : α → Nat) (x : α) {L : List α} (h : L.Pairwise (fun a b => key a < key b)) : (setK key x L).length = L.length + (if L.any (fun j => key j == key x) then 0 else 1) := by
  rw [setK_eq key x h]
  have gen : ∀ L : List α, L.Pairwise (fun a b => key a < key b) → (L.filter (fun y => decide (key y < key x))).length + (L.filter (fun y => decide (key x < key y))).length + (if L.any (fun j => key j == key x) then 1 else 0) = L.length := by
    intro L
    induction L with
    | nil => intro _; rfl
    | cons y L ih =>
      intro h
      obtain ⟨h1, h2⟩ := List.pairwise_cons.1 h
      have ih := ih h2
      rw [List.filter_cons, List.filter_cons, List.any_cons]
      rcases Nat.lt_trichotomy (key y) (key x) with e | e | e
      · rw [if_pos (by simpa using e), if_neg (by simp; omega), show (key y == key x) = false by simp; omega]
        simp only [Bool.false_or, List.length_cons]
        omega
      · have hno : L.any (fun j => key j == key x) = false := any_noKey.2 fun j hj => by have := h1 j hj; omega
        rw [hno] at ih
        rw [if_neg (by simp; omega), if_neg (by simp; omega), show (key y == key x) = true by simp [e], hno]
        simp only [Bool.or_false, if_true, List.length_cons]
        simp at ih
        omega
      · rw [if_neg (by simp; omega), if_pos (by simpa using e), show (key y == key x) = false by simp; omega]
        simp only [Bool.false_or, List.length_cons]
        omega
  have := gen L h
  rw [List.length_append, List.length_cons]
  split <;> simp_all <;> omega
theorem MapOf.set {α : Type} {key : α → Nat} {dat : α → DataW Unit} {D : DataW Unit} {L : List α} (h : MapOf key dat D L) (hp : L.Pairwise (fun a b => key a < key b)) (x : α) : MapOf key dat (D.put (idK (key x)) (dat x)) (setK key x L) := by
  have hm := h.tidy.isMap
  refine ⟨h.tidy.put (idK_key _) _, fun id => ?_, fun y hy z => ?_, ?_⟩
  · by_cases e : id = key x
    · subst e
      rw [Maps.has_put_same hm (idK_key _)]
      exact (any_key.2 ⟨x, (setK_mem key x hp x).2 (.inl rfl), rfl⟩).symm
    · rw [Maps.has_put_other (idK_ne e), h.has id, Bool.eq_iff_iff, any_key, any_key]
      constructor
      · rintro ⟨j, hj, rfl⟩
        exact ⟨j, (setK_mem key x hp j).2 (.inr ⟨hj, e⟩), rfl⟩
      · rintro ⟨j, hj, rfl⟩
        rcases (setK_mem key x hp j).1 hj with rfl | ⟨h1, _⟩
        · exact absurd rfl e
        · exact ⟨j, h1, rfl⟩
  · rcases (setK_mem key x hp y).1 hy with rfl | ⟨h1, h2⟩
    · exact Maps.atKey_put_same hm (idK_key _) _ z
    · rw [Maps.atKey_put_other (idK_ne h2), h.at' y h1 z]
  · rw [Maps.size_put h.tidy, h.has, setK_length key x hp, h.size]
    split <;> simp
theorem filter_lenK {α : Type} {key : α → Nat} {L : List α} (hp : L.Pairwise (fun a b => key a < key b)) (id : Nat) : (L.filter fun x => key x != id).length + (if L.any (fun j => key j == id) then 1 else 0) = L.length := by
  induction L with
  | nil => rfl
  | cons x L ih =>
    obtain ⟨h1, h2⟩ := List.pairwise_cons.1 hp
    have ih := ih h2
    by_cases e : key x = id
    · subst e
      have hno : L.any (fun j => key j == key x) = false := any_noKey.2 fun y hy => by have := h1 y hy; omega
      rw [hno] at ih
      simp at ih ⊢
      exact ih
    · have e1 : (key x == id) = false := by rw [beq_eq_false_iff_ne]; exact e
      have e2 : (key x != id) = true := by simp [bne, e1]
      rw [List.filter_cons, e2, List.any_cons, e1]
      simp only [Bool.false_or, if_true, List.length_cons]
      omega
theorem MapOf.del {α : Type} {key : α → Nat} {dat : α → DataW Unit} {D : DataW Unit} {L : List α} (h : MapOf key dat D L) (hp : L.Pairwise (fun a b => key a < key b)) (id : Nat) : MapOf key dat (D.del (idK id)) (L.filter fun x => key x != id) := by
  refine ⟨h.tidy.del _, fun k => ?_, fun x hx z => ?_, ?_⟩
  · by_cases e : k = id
    · subst e
      rw [Maps.has_del_same]
      symm
      exact any_noKey.2 fun x hx => by simpa using (List.mem_filter.1 hx).2
    · rw [Maps.has_del_other (idK_ne e), h.has k, Bool.eq_iff_iff, any_key, any_key]
      constructor
      · rintro ⟨x, hx, rfl⟩; exact ⟨x, List.mem_filter.2 ⟨hx, by simpa using e⟩, rfl⟩
      · rintro ⟨x, hx, rfl⟩; exact ⟨x, (List.mem_filter.1 hx).1, rfl⟩
  · have hx' := List.mem_filter.1 hx
    have : key x ≠ id := by simpa using hx'.2
    rw [Maps.atKey_del_other (idK_ne this), h.at' x hx'.1 z]
  · have h1 := Maps.size_del (k := idK id) h.tidy
    have h2 := filter_lenK hp id
    rw [h.has] at h1
    have := h.size
    omega
/-- looked for: there -/
theorem MapOf.found {α : Type} {key : α → Nat} {dat : α → DataW Unit} {D : DataW Unit} {L : List α} (h : MapOf key dat D L) {id : Nat} {j : α} (hf : L.find? (fun j => key j == id) = some j) : Maps.has D (idK id) = true ∧ (∀ z, D.atKey (idK id) z = dat j) ∧ j ∈ L ∧ key j = id := by
  have h1 := List.mem_of_find?_eq_some hf
  have h2 : key j = id := by simpa using List.find?_some hf
  exact ⟨by rw [h.has]; exact any_key.2 ⟨j, h1, h2⟩, fun z => by rw [← h2]; exact h.at' j h1 z, h1, h2⟩
/-- looked for: not there -/
theorem MapOf.missed {α : Type} {key : α → Nat} {dat : α → DataW Unit} {D : DataW Unit} {L : List α} (h : MapOf key dat D L) {id : Nat} (hf : L.find? (fun j => key j == id) = none) : Maps.has D (idK id) = false ∧ ∀ z, D.atKey (idK id) z = z := by
  have h0 : Maps.has D (idK id) = false := by
    rw [h.has]
    exact any_noKey.2 fun x hx => by simpa using List.find?_eq_none.1 hf x hx
  exact ⟨h0, fun z => Maps.atKey_of_not_has h0 z⟩
theorem owns_tight {w : World} {P : Program} {k : TypeId} {R : Value → Option (DataW Unit × List MemPlace)} {b n : Nat} {D : DataW Unit} (h : w.ownsMap P k R b n D) : w.ownsMap P k R b (Maps.size D) D := by
  obtain ⟨es, clock, hb, F, _, rfl⟩ := h
  exact ⟨es, clock, hb, F, by simp [Maps.size, length_sorted], rfl⟩
theorem u32_wf {n : Nat} (h : n < 4294967296) : (Lit.int .u32 (n : Int)).wf = true := by
  simp only [Lit.wf, IntKind.min, IntKind.max, IntKind.signed, IntKind.bits, Bool.and_eq_true, decide_eq_true_eq]
  constructor <;> simp <;> omega
end Go.Proofs.YtoapibbbooongaaDoor
