/- What came in as data, opened part by part: integers, bools, bytes, structs, slices of whatever. -/
import Derived.Test.YtmmcmldcbdaooaaDoorFrame
import Derived.Deep.Slices
import Derived.ChangeArms
namespace Go.Quad
open Go.RowKit Go.ChangeShapes Go.WideShapes

/-- cells that read as data of the type t -/
def RC (P : Program) (w : World) (t : TypeId) (cs : List Value) : Prop :=
  ∃ (H : Type) (enc : TypeId × Value → H) (base : Nat) (spare : Nat → Bool) (held : Bool) (n : Nat) (x : DataW H × List MemPlace), DataW.trod enc P w base spare held n t cs = some x

theorem RC.int {P : Program} {w : World} {t : TypeId} {cs : List Value} {k : IntKind} (h : RC P w t cs) (ht : P.underlying t = some (.int k)) : ∃ n, cs = [.int k n] ∧ (Lit.int k n).wf = true := by
  obtain ⟨H, enc, base, spare, held, n, x, h⟩ := h
  obtain ⟨z, hc, _, hw⟩ := DataW.trod_int ht h
  exact ⟨z, hc, hw⟩

theorem RC.bool {P : Program} {w : World} {t : TypeId} {cs : List Value} (h : RC P w t cs) (ht : P.underlying t = some .bool) : ∃ b, cs = [.bool b] := by
  obtain ⟨H, enc, base, spare, held, n, x, h⟩ := h
  obtain ⟨z, hc, _⟩ := DataW.trod_bool ht h
  exact ⟨z, hc⟩

theorem RC.len {P : Program} {w : World} {t : TypeId} {cs : List Value} {fs : Array Field} (h : RC P w t cs) (ht : P.underlying t = some (.struct fs)) : cs.length = P.cellsOf t := by
  obtain ⟨H, enc, base, spare, held, n, x, h⟩ := h
  obtain ⟨_, _, _, _, hl, _⟩ := DataW.trod_struct ht h
  exact hl

theorem RC.field {P : Program} {w : World} {t : TypeId} {cs : List Value} {fs : Array Field} (h : RC P w t cs) (ht : P.underlying t = some (.struct fs)) (i : Nat) (f : Field) (hf : fs[i]? = some f) :
    RC P w f.type ((cs.drop f.offset).take (P.cellsOf f.type)) := by
  obtain ⟨H, enc, base, spare, held, n, x, h⟩ := h
  obtain ⟨xs, m, _, _, _, hl, hg⟩ := DataW.trod_struct ht h
  have hi : i < fs.size := (Array.getElem?_eq_some_iff.1 hf).1
  exact ⟨H, enc, base, spare, held, m, _, (hg i f hf).trans (List.getElem?_eq_getElem (by omega))⟩

theorem RC.fld {P : Program} {w : World} {t : TypeId} {cs : List Value} {fs : Array Field} (h : RC P w t cs) (ht : P.underlying t = some (.struct fs)) (i : Nat) (ty : TypeId) (off sz : Nat)
    (hf : (fs[i]?).map (fun f => (f.type, f.offset)) = some (ty, off)) (hs : P.cellsOf ty = sz) : RC P w ty ((cs.drop off).take sz) := by
  rw [Option.map_eq_some_iff] at hf
  obtain ⟨f, h1, h2⟩ := hf
  cases h2
  subst hs
  exact h.field ht i f h1

theorem flatten_len {sz : Nat} : ∀ {E : List (List Value)}, (∀ x ∈ E, x.length = sz) → E.flatten.length = E.length * sz
  | [], _ => by simp
  | x :: E, h => by
    rw [List.flatten_cons, List.length_append, flatten_len fun y hy => h y (List.mem_cons_of_mem _ hy), h x (List.mem_cons_self ..), List.length_cons, Nat.add_mul]
    omega

theorem flatten_get {sz : Nat} : ∀ {E : List (List Value)}, (∀ x ∈ E, x.length = sz) → ∀ (i j : Nat) (x : List Value), E[i]? = some x → j < sz → E.flatten[i * sz + j]? = x[j]?
  | [], _, i, j, x, h, _ => by simp at h
  | y :: E, he, 0, j, x, h, hj => by
    simp only [List.getElem?_cons_zero, Option.some.injEq] at h
    subst h
    rw [List.flatten_cons, Nat.zero_mul, Nat.zero_add, List.getElem?_append_left (by rw [he y (List.mem_cons_self ..)]; exact hj)]
  | y :: E, he, i + 1, j, x, h, hj => by
    have hy := he y (List.mem_cons_self ..)
    rw [List.flatten_cons, List.getElem?_append_right (by rw [hy, Nat.add_mul]; omega), hy]
    rw [show (i + 1) * sz + j - sz = i * sz + j from by rw [Nat.add_mul]; omega]
    exact flatten_get (fun z hz => he z (List.mem_cons_of_mem _ hz)) i j x (by simpa using h) hj

/-- a slice of whatever: its elements, each of sz cells -/
theorem RC.slice {P : Program} {w : World} {t e : TypeId} {cs : List Value} (h : RC P w t cs) (ht : P.underlying t = some (.slice e)) (sz : Nat) (hz : P.cellsOf e = sz) (h0 : 0 < sz) :
    ∃ (a : Option Addr) (cap : Nat) (E : List (List Value)), cs = [.slice a E.length cap] ∧ (∀ x ∈ E, x.length = sz ∧ RC P w e x) ∧ E.length ≤ cap ∧ CS w a cap sz E.flatten := by
  obtain ⟨H, enc, base, spare, held, n, x, h⟩ := h
  rcases Go.Deep.open_slice ht h with ⟨hc, _⟩ | ⟨a, len, cap, m, n, D, Pl, hc, _, hl, hm, hmm, _, hi⟩
  · exact ⟨none, 0, [], hc, by simp, by simp, by simp, by simp [maxLen], fun _ => rfl, .inl rfl⟩
  · have hlm : len ≤ m := by rw [hmm]; split <;> omega
    obtain ⟨C, hC⟩ := Go.Deep.choose_lt (α := List Value) (n := len) (p := fun i c => w.cells? base (a.add (i * P.cellsOf e)) (P.cellsOf e) = some c ∧ RC P w e c) (fun i hi' => by
      obtain ⟨c, h1, h2⟩ := hi i (by omega)
      exact ⟨c, h1, H, enc, base, spare, held, n, _, h2⟩)
    rw [hz] at hC
    have hE : ∀ x ∈ (List.range len).map C, x.length = sz ∧ RC P w e x := by
      intro x hx
      obtain ⟨i, hi', rfl⟩ := List.mem_map.1 hx
      have := hC i (by simpa using hi')
      exact ⟨(World.cells?_some this.1).2.1, this.2⟩
    have hlen : ((List.range len).map C).length = len := by simp
    have hfl := flatten_len fun x hx => (hE x hx).1
    rw [hlen] at hfl
    refine ⟨some a, cap, (List.range len).map C, by rw [hlen]; exact hc, hE, by rw [hlen]; exact hl, by rw [hfl]; exact Nat.mul_le_mul_right _ hl, hm, by simp, ?_⟩
    rcases Nat.eq_zero_or_pos len with h00 | h00
    · left; subst h00; rfl
    · right
      have cell : ∀ i j, i < len → j < sz → w.cell? (a.add (i * sz + j)) = (C i)[j]? := fun i j hi' hj => by
        have := (World.cells?_some (hC i hi').1).2.2 j hj
        rw [Go.Deep.add_add] at this
        exact this
      obtain ⟨b, off, spot⟩ := a
      have c0 := cell 0 0 h00 h0
      have l0 : 0 < (C 0).length := by rw [(World.cells?_some (hC 0 h00).1).2.1]; exact h0
      rw [List.getElem?_eq_getElem l0] at c0
      have hspot : spot = none := by simpa [Addr.add] using World.cell?_spot c0
      subst hspot
      refine ⟨b, off, rfl, fun i v hv => ?_⟩
      have hlt : i < len * sz := by
        rcases Nat.lt_or_ge i ((List.range len).map C).flatten.length with h | h
        · omega
        · rw [List.getElem?_eq_none h] at hv; cases hv
      have hq : i / sz < len := by rw [Nat.div_lt_iff_lt_mul h0]; exact hlt
      have hi' : i / sz * sz + i % sz = i := by rw [Nat.mul_comm]; exact Nat.div_add_mod i sz
      have hg := flatten_get (fun x hx => (hE x hx).1) (i / sz) (i % sz) (C (i / sz)) (by simp [hq]) (Nat.mod_lt _ h0)
      have hcl := cell (i / sz) (i % sz) hq (Nat.mod_lt _ h0)
      rw [hi'] at hg hcl
      rw [hg] at hv
      rw [hv] at hcl
      have hadd : (⟨b, off, none⟩ : Addr).add i = ⟨b, off + i, none⟩ := by unfold Addr.add; split <;> simp_all
      rw [hadd] at hcl
      exact hcl

/-- a slice of bytes -/
theorem RC.bytes {P : Program} {w : World} {t e : TypeId} {cs : List Value} (h : RC P w t cs) (ht : P.underlying t = some (.slice e)) (he : P.underlying e = some (.int .u8)) (hz : P.cellsOf e = 1) :
    ∃ (a : Option Addr) (cap : Nat) (l : List UInt8), cs = [.slice a l.length cap] ∧ BS w a cap l := by
  obtain ⟨a, cap, E, hc, hE, hl, hcs⟩ := h.slice ht 1 hz (by decide)
  have key : ∀ E : List (List Value), (∀ x ∈ E, x.length = 1 ∧ RC P w e x) → ∃ l : List UInt8, l.length = E.length ∧ E.flatten = l.map u8v := by
    intro E
    induction E with
    | nil => intro _; exact ⟨[], rfl, rfl⟩
    | cons x E ih =>
      intro h
      obtain ⟨l, h1, h2⟩ := ih fun y hy => h y (List.mem_cons_of_mem _ hy)
      obtain ⟨n, hx, hw⟩ := (h x (List.mem_cons_self ..)).2.int he
      have hb := bounds_u8 hw
      refine ⟨UInt8.ofNat n.toNat :: l, by simp [h1], ?_⟩
      rw [List.flatten_cons, h2, hx, List.map_cons]
      have e : u8v (UInt8.ofNat n.toNat) = .int .u8 n := by
        unfold u8v
        have : (UInt8.ofNat n.toNat).toNat = n.toNat := by simp; omega
        rw [this]
        congr 1
        omega
      rw [e]
      rfl
  obtain ⟨l, h1, h2⟩ := key E hE
  refine ⟨a, cap, l, by rw [h1]; exact hc, ?_⟩
  unfold BS
  rw [← h2]
  exact hcs

/-- a value that reads as data -/
def RV (P : Program) (w : World) (t : TypeId) (v : Value) : Prop := RC P w t v.cells.toList ∧ ∃ r b, Value.okWide P w r b t v

theorem RV.mk {H : Type} {enc : TypeId × Value → H} {P : Program} {w : World} {base : Nat} {spare : Nat → Bool} {held : Bool} {t : TypeId} {v : Value} {d : DataW H} {p : List MemPlace} {r : Reach} {b0 : Nat}
    (h : DataW.Trod enc P w base spare held t v d p) (hv : Value.okWide P w r b0 t v) : RV P w t v := by
  obtain ⟨n, h⟩ := h
  exact ⟨⟨H, enc, base, spare, held, n, _, h⟩, r, b0, hv⟩

theorem RV.slice {P : Program} {w : World} {t e : TypeId} {v : Value} (h : RV P w t v) (ht : P.underlying t = some (.slice e)) (sz : Nat) (hz : P.cellsOf e = sz) (h0 : 0 < sz) :
    ∃ (a : Option Addr) (cap : Nat) (E : List (List Value)), v = .slice a E.length cap ∧ (∀ x ∈ E, x.length = sz ∧ RC P w e x) ∧ E.length ≤ cap ∧ CS w a cap sz E.flatten := by
  obtain ⟨h1, r, b, h2⟩ := h
  obtain ⟨a', len', cap', rfl⟩ := okWide_slice ht h2
  obtain ⟨a, cap, E, hc, hE, hl, hcs⟩ := h1.slice ht sz hz h0
  simp [Value.cells] at hc
  obtain ⟨rfl, rfl, rfl⟩ := hc
  exact ⟨_, _, E, rfl, hE, hl, hcs⟩

theorem RV.bytes {P : Program} {w : World} {t e : TypeId} {v : Value} (h : RV P w t v) (ht : P.underlying t = some (.slice e)) (he : P.underlying e = some (.int .u8)) (hz : P.cellsOf e = 1) :
    ∃ (a : Option Addr) (cap : Nat) (l : List UInt8), v = .slice a l.length cap ∧ BS w a cap l := by
  obtain ⟨h1, r, b, h2⟩ := h
  obtain ⟨a', len', cap', rfl⟩ := okWide_slice ht h2
  obtain ⟨a, cap, l, hc, hcs⟩ := h1.bytes ht he hz
  simp [Value.cells] at hc
  obtain ⟨rfl, rfl, rfl⟩ := hc
  exact ⟨_, _, l, rfl, hcs⟩

theorem RV.struct {P : Program} {w : World} {t : TypeId} {v : Value} {fs : Array Field} (h : RV P w t v) (ht : P.underlying t = some (.struct fs)) :
    ∃ cs : List Value, v = .agg cs.toArray ∧ cs.length = P.cellsOf t ∧ RC P w t cs := by
  obtain ⟨h1, r, b, h2⟩ := h
  obtain ⟨cs, rfl, hs⟩ := okWide_struct ht h2
  exact ⟨cs.toList, by simp, by simpa using hs, by simpa [Value.cells] using h1⟩
end Go.Quad
