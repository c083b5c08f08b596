/- A map of jobs by their numbers, and a list. -/
import Derived.Test.YtombndhjoaaaiaaDoorJobMath
import Derived.Maps.OwnSet
import Derived.Maps.Own
namespace Go.Proofs.YtombndhjoaaaiaaDoor
open Go.RowKit Go.Quad _root_.Quad _root_.Quad.Ink

def jobV (j : JobD) : List Value := [.int .u32 (j.id : Int), .int .u8 (j.tier : Int), .int .i64 j.k, .int .i64 j.w, .int .u8 (j.state : Int), .int .i64 j.credit]
theorem jobV_length (j : JobD) : (jobV j).length = 6 := rfl
theorem jobV_one (j : JobD) : ∀ u ∈ jobV j, u.oneCell' = true := by
  intro u hu
  simp only [jobV, List.mem_cons, List.not_mem_nil, or_false] at hu
  rcases hu with rfl | rfl | rfl | rfl | rfl | rfl <;> rfl
def jobDat (j : JobD) : DataW Unit := .agg [.lit (.int .u32 (j.id : Int)), .lit (.int .u8 (j.tier : Int)), .lit (.int .i64 j.k), .lit (.int .i64 j.w), .lit (.int .u8 (j.state : Int)), .lit (.int .i64 j.credit)]
/-- how a job in a map reads -/
def jobR (v : Value) : Option (DataW Unit × List MemPlace) :=
  match v with
  | .agg xs => match xs.toList with
    | [.int .u32 a, .int .u8 b, .int .i64 c, .int .i64 d, .int .u8 e, .int .i64 f] => some (.agg [.lit (.int .u32 a), .lit (.int .u8 b), .lit (.int .i64 c), .lit (.int .i64 d), .lit (.int .u8 e), .lit (.int .i64 f)], [])
    | _ => none
  | _ => none
theorem jobR_mk (j : JobD) : jobR (.agg (jobV j).toArray) = some (jobDat j, []) := rfl
theorem jobR_inv {v : Value} {j : JobD} {ps : List MemPlace} (h : jobR v = some (jobDat j, ps)) : v = .agg (jobV j).toArray := by
  unfold jobR at h
  split at h
  · rename_i xs
    split at h
    · rename_i a b c d e f hx
      simp only [Option.some.injEq, Prod.mk.injEq, jobDat, DataW.agg.injEq, List.cons.injEq, DataW.lit.injEq, Lit.int.injEq, true_and, and_true] at h
      obtain ⟨⟨rfl, rfl, rfl, rfl, rfl, rfl⟩, _⟩ := h
      have : xs = (jobV j).toArray := by rw [← Array.toArray_toList (xs := xs), hx]; rfl
      rw [this]
    · cases h
  · cases h

def idK (id : Nat) : Lit := .int .u32 (id : Int)
theorem idK_ne {a b : Nat} (h : a ≠ b) : idK a ≠ idK b := by
  intro e
  unfold idK at e
  simp only [Lit.int.injEq, true_and] at e
  omega
theorem idK_key (a : Nat) : WideAt.IsKeyLit (idK a) := trivial
/-- a map that holds just these jobs, by their numbers -/
structure MapIs (D : DataW Unit) (L : List JobD) : Prop where
  tidy : Maps.Tidy D
  has : ∀ id : Nat, Maps.has D (idK id) = L.any (fun j => j.id == id)
  at' : ∀ j ∈ L, ∀ z, D.atKey (idK j.id) z = jobDat j
  size : Maps.size D = L.length
theorem MapIs.nil : MapIs (.map []) [] := ⟨Maps.tidy_empty, fun _ => rfl, by simp, rfl⟩
theorem any_id {L : List JobD} {id : Nat} : L.any (fun j => j.id == id) = true ↔ ∃ j ∈ L, j.id = id := by simp
theorem MapIs.put {D : DataW Unit} {L : List JobD} (h : MapIs D L) {j : JobD} (hn : ∀ x ∈ L, x.id ≠ j.id) : MapIs (D.put (idK j.id) (jobDat j)) (L ++ [j]) := by
  have hm := h.tidy.isMap
  refine ⟨h.tidy.put (idK_key _) _, fun id => ?_, fun x hx z => ?_, ?_⟩
  · rw [List.any_append]
    by_cases e : id = j.id
    · subst e
      rw [Maps.has_put_same hm (idK_key _)]
      simp
    · rw [Maps.has_put_other (idK_ne e), h.has id]
      have : (j.id == id) = false := by rw [beq_eq_false_iff_ne]; exact fun h => e h.symm
      simp [this]
  · rcases List.mem_append.1 hx with hx | hx
    · rw [Maps.atKey_put_other (idK_ne (hn x hx)), h.at' x hx z]
    · rw [List.mem_singleton] at hx; subst hx
      exact Maps.atKey_put_same hm (idK_key _) _ z
  · rw [Maps.size_put h.tidy]
    have : Maps.has D (idK j.id) = false := by
      rw [h.has]
      simp only [List.any_eq_false, beq_iff_eq]
      exact hn
    rw [this, List.length_append]
    simp [h.size]
theorem MapIs.set {D : DataW Unit} {L : List JobD} (h : MapIs D L) {j : JobD} (hj : ∃ x ∈ L, x.id = j.id) : MapIs (D.put (idK j.id) (jobDat j)) (L.map fun x => if x.id = j.id then j else x) := by
  have hm := h.tidy.isMap
  have hid : ∀ x : JobD, (if x.id = j.id then j else x).id = x.id := fun x => by split <;> simp_all
  refine ⟨h.tidy.put (idK_key _) _, fun id => ?_, fun x hx z => ?_, ?_⟩
  · rw [List.any_map]
    have e1 : ((fun j => j.id == id) ∘ fun x => if x.id = j.id then j else x) = fun x : JobD => x.id == id := by
      funext x
      simp only [Function.comp, hid]
    rw [e1]
    by_cases e : id = j.id
    · subst e
      rw [Maps.has_put_same hm (idK_key _)]
      exact (any_id.2 hj).symm
    · rw [Maps.has_put_other (idK_ne e), h.has id]
  · obtain ⟨y, hy, rfl⟩ := List.mem_map.1 hx
    by_cases e : y.id = j.id
    · rw [if_pos e]
      exact Maps.atKey_put_same hm (idK_key _) _ z
    · rw [if_neg e, Maps.atKey_put_other (idK_ne e), h.at' y hy z]
  · rw [Maps.size_put h.tidy, h.has, any_id.2 hj, List.length_map]
    simp [h.size]
theorem filter_one {L : List JobD} (hp : L.Pairwise (fun a b => a.id < b.id)) (id : Nat) : (L.filter fun x => x.id != id).length + (if L.any (fun j => j.id == id) then 1 else 0) = L.length := by
  induction L with
  | nil => rfl
  | cons x L ih =>
    obtain ⟨h1, h2⟩ := List.pairwise_cons.1 hp
    have ih := ih h2
    by_cases e : x.id = id
    · subst e
      have hno : L.any (fun j => j.id == x.id) = false := by
        simp only [List.any_eq_false, beq_iff_eq]
        exact fun y hy e => by have := h1 y hy; omega
      rw [hno] at ih
      simp at ih ⊢
      exact ih
    · have e1 : (x.id == id) = false := by rw [beq_eq_false_iff_ne]; exact e
      have e2 : (x.id != id) = true := by simp [bne, e1]
      rw [List.filter_cons, e2, List.any_cons, e1]
      simp only [Bool.false_or, if_true, List.length_cons]
      omega
theorem MapIs.del {D : DataW Unit} {L : List JobD} (h : MapIs D L) (hp : L.Pairwise (fun a b => a.id < b.id)) (id : Nat) : MapIs (D.del (idK id)) (L.filter fun x => x.id != id) := by
  refine ⟨h.tidy.del _, fun k => ?_, fun x hx z => ?_, ?_⟩
  · by_cases e : k = id
    · subst e
      rw [Maps.has_del_same]
      symm
      simp only [List.any_eq_false, List.mem_filter, beq_iff_eq, bne_iff_ne, ne_eq]
      exact fun x hx => hx.2
    · rw [Maps.has_del_other (idK_ne e), h.has k]
      rw [Bool.eq_iff_iff]
      simp only [List.any_eq_true, List.mem_filter, beq_iff_eq, bne_iff_ne, ne_eq]
      constructor
      · rintro ⟨x, hx, rfl⟩; exact ⟨x, ⟨hx, e⟩, rfl⟩
      · rintro ⟨x, ⟨hx, _⟩, rfl⟩; exact ⟨x, hx, rfl⟩
  · have hx' := List.mem_filter.1 hx
    have : x.id ≠ id := by simpa using hx'.2
    rw [Maps.atKey_del_other (idK_ne this), h.at' x hx'.1 z]
  · have h1 := Maps.size_del (k := idK id) h.tidy
    have h2 := filter_one hp id
    rw [h.has] at h1
    have := h.size
    omega
/-- looked for: there -/
theorem MapIs.found {D : DataW Unit} {L : List JobD} (h : MapIs D L) {id : Nat} {j : JobD} (hf : L.find? (fun j => j.id == id) = some j) : Maps.has D (idK id) = true ∧ ∀ z, D.atKey (idK id) z = jobDat j := by
  obtain ⟨h1, h2⟩ := find_id hf
  exact ⟨by rw [h.has]; exact any_id.2 ⟨j, h1, h2⟩, fun z => by rw [← h2]; exact h.at' j h1 z⟩
/-- looked for: not there -/
theorem MapIs.missed {D : DataW Unit} {L : List JobD} (h : MapIs D L) {id : Nat} (hf : L.find? (fun j => j.id == id) = none) : Maps.has D (idK id) = false ∧ ∀ z, D.atKey (idK id) z = z := by
  have h0 : Maps.has D (idK id) = false := by
    rw [h.has]
    simp only [List.any_eq_false, beq_iff_eq]
    exact fun x hx => by simpa using List.find?_eq_none.1 hf x hx
  exact ⟨h0, fun z => Maps.atKey_of_not_has h0 z⟩
theorem owns_tight {w : World} {P : Program} {k : TypeId} {R : Value → Option (DataW Unit × List MemPlace)} {b n : Nat} {D : DataW Unit} (h : w.ownsMap P k R b n D) : w.ownsMap P k R b (Maps.size D) D := by
  obtain ⟨es, clock, hb, F, _, rfl⟩ := h
  exact ⟨es, clock, hb, F, by simp [Maps.size, length_sorted], rfl⟩
theorem u32_wf {n : Nat} (h : n < 4294967296) : (Lit.int .u32 (n : Int)).wf = true := by
  simp only [Lit.wf, IntKind.min, IntKind.max, IntKind.signed, IntKind.bits, Bool.and_eq_true, decide_eq_true_eq]
  constructor <;> simp <;> omega
end Go.Proofs.YtombndhjoaaaiaaDoor
