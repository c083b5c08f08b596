/- Small laws over any program, in the form that the walk takes: slices that read as known cells, slice expressions, append onto a row of the call's own, bytes as a string. (Several texts in one: Lib, Heap, Frame, Reads, Lists, Bytes, InkMath.) -/
import Derived.WalkKit
import Derived.WalkSpells
import Derived.WalkLawsBesides
import Derived.Maps.AppendAt
import Derived.ProofKit
import Derived.OpenShut
import Derived.Deep.DeepHandedRow
import Derived.Lib.LaidTab
import Derived.Deep.Slices
import Derived.ChangeArms
import Derived.Test.YtoapibbbooongaaDoorRows
import Derived.Deep.DeepMust

/- Small laws over any program, in the form that the walk takes: slices that read as known cells, slice expressions, append onto a row of the call's own, bytes as a string. -/
namespace Go.Quad
open Go.RowKit

/-- a fact kept from the walk, behind a structure: no tactic looks through it -/
structure Kept (p : Prop) : Prop where
  out : p
theorem hid {p : Prop} (h : p) : Kept p := ⟨h⟩

/-- the value of a byte -/
def u8v (c : UInt8) : Value := .int .u8 (c.toNat : Int)

/-- THE CELLS BEHIND A SLICE's ADDRESS: the first ones are xs; room for cap elements of sz cells each. -/
structure CS (w : World) (a : Option Addr) (cap sz : Nat) (xs : List Value) : Prop where
  fit : xs.length ≤ cap * sz
  max : cap ≤ maxLen
  none : a = none → cap = 0
  at' : xs = [] ∨ ∃ b off, a = some ⟨b, off, .none⟩ ∧ ∀ i v, xs[i]? = some v → w.cell? ⟨b, off + i, .none⟩ = some v

/-- bytes -/
def BS (w : World) (a : Option Addr) (cap : Nat) (l : List UInt8) : Prop := CS w a cap 1 (l.map u8v)

theorem CS.of_cells {w w' : World} {a : Option Addr} {cap sz : Nat} {xs : List Value} (h : CS w a cap sz xs) (hc : ∀ p v, w.cell? p = some v → w'.cell? p = some v) : CS w' a cap sz xs :=
  ⟨h.fit, h.max, h.none, h.at'.imp id fun ⟨b, off, e, hh⟩ => ⟨b, off, e, fun i v hv => hc _ _ (hh i v hv)⟩⟩

theorem CS.below {w w' : World} {a : Option Addr} {cap sz : Nat} {xs : List Value} (h : CS w a cap sz xs) (hb : Below w.heap.size w w') : CS w' a cap sz xs :=
  h.of_cells fun _ _ hv => cell_later hb hv

theorem BS.below {w w' : World} {a : Option Addr} {cap : Nat} {l : List UInt8} (h : BS w a cap l) (hb : Below w.heap.size w w') : BS w' a cap l := CS.below h hb

/-- an address that isn't of this block -/
def Off (g : Nat) : Option Addr → Prop
  | some x => x.block ≠ g
  | none => True

theorem CS.other {w w' : World} {a : Option Addr} {cap sz : Nat} {xs : List Value} (h : CS w a cap sz xs) {row : Option Nat} (hg : w.grownBy w' row) (ho : ∀ g, row = some g → Off g a) : CS w' a cap sz xs :=
  ⟨h.fit, h.max, h.none, h.at'.imp id fun ⟨b, off, e, hh⟩ => ⟨b, off, e, fun i v hv => hg.cell (hh i v hv) (fun e' => by
    have := ho b e'.symm
    rw [e] at this
    exact this rfl)⟩⟩

theorem BS.other {w w' : World} {a : Option Addr} {cap : Nat} {l : List UInt8} (h : BS w a cap l) {row : Option Nat} (hg : w.grownBy w' row) (ho : ∀ g, row = some g → Off g a) : BS w' a cap l := CS.other h hg ho

theorem CS.take {w : World} {a : Option Addr} {cap sz : Nat} {xs : List Value} (h : CS w a cap sz xs) (n : Nat) : CS w a cap sz (xs.take n) := by
  refine ⟨Nat.le_trans (List.length_take_le' _ _) h.fit, h.max, h.none, ?_⟩
  rcases h.at' with rfl | ⟨b, off, e, hh⟩
  · left; simp
  · right
    refine ⟨b, off, e, fun i v hv => hh i v ?_⟩
    rw [List.getElem?_take] at hv
    split at hv
    · exact hv
    · cases hv

theorem BS.take {w : World} {a : Option Addr} {cap : Nat} {l : List UInt8} (h : BS w a cap l) (n : Nat) : BS w a cap (l.take n) := by
  have := CS.take h n
  unfold BS
  rw [List.map_take]
  exact this

theorem BS.left {w : World} {a : Option Addr} {cap : Nat} {l m : List UInt8} (h : BS w a cap (l ++ m)) : BS w a cap l := by
  have := h.take l.length
  rwa [List.take_left] at this

theorem BS.fit' {w : World} {a : Option Addr} {cap : Nat} {l : List UInt8} (h : BS w a cap l) : l.length ≤ cap := by
  have := h.fit; simpa using this

theorem CS.at {w : World} {a : Option Addr} {cap sz : Nat} {xs : List Value} (h : CS w a cap sz xs) (h0 : 0 < xs.length) : ∃ b off, a = some ⟨b, off, .none⟩ ∧ ∀ i v, xs[i]? = some v → w.cell? ⟨b, off + i, .none⟩ = some v := by
  rcases h.at' with rfl | h
  · simp at h0
  · exact h

theorem BS.at {w : World} {a : Option Addr} {cap : Nat} {l : List UInt8} (h : BS w a cap l) (h0 : 0 < l.length) : ∃ b off, a = some ⟨b, off, .none⟩ ∧ ∀ i (hi : i < l.length), w.cell? ⟨b, off + i, .none⟩ = some (.int .u8 (l[i].toNat : Int)) := by
  obtain ⟨b, off, e, hh⟩ := CS.at h (by simpa using h0)
  exact ⟨b, off, e, fun i hi => hh i _ (by simp [List.getElem?_map, List.getElem?_eq_getElem hi, u8v])⟩

/-- a byte under a name of its own -/
theorem BS.get {w : World} {a : Option Addr} {cap : Nat} {l : List UInt8} (h : BS w a cap l) (h0 : 0 < l.length) : ∃ b off, a = some ⟨b, off, .none⟩ ∧ ∀ i, i < l.length → ∃ x : Nat, (l.getD i 0).toNat = x ∧ (x : Int) ≤ 255 ∧ w.cell? ⟨b, off + i, .none⟩ = some (.int .u8 (x : Int)) := by
  obtain ⟨b, off, e, hh⟩ := h.at h0
  refine ⟨b, off, e, fun i hi => ⟨_, rfl, by have := (l.getD i 0).toNat_lt; omega, ?_⟩⟩
  rw [hh i hi]
  simp [List.getElem?_eq_getElem hi]

theorem BS.nil (w : World) : BS w none 0 [] := ⟨by simp, by simp [maxLen], fun _ => rfl, .inl (by simp)⟩

theorem BS.max' {w : World} {a : Option Addr} {cap : Nat} {l : List UInt8} (h : BS w a cap l) : l.length ≤ 9223372036854775807 := by
  have := h.fit'; have := h.max; unfold maxLen at *; omega

/-- of a slice that came in -/
theorem BS.of_row {w : World} {b off len cap : Nat} {l : List UInt8} (hl : l.length = len) (hc : len ≤ cap) (hm : cap ≤ maxLen) (h : ∀ i (hi : i < l.length), w.cell? ⟨b, off + i, none⟩ = some (.int .u8 (l[i].toNat : Int))) : BS w (some ⟨b, off, none⟩) cap l := by
  refine ⟨by simpa [hl] using hc, hm, by simp, .inr ⟨b, off, rfl, fun i v hv => ?_⟩⟩
  rw [List.getElem?_map] at hv
  rcases Nat.lt_or_ge i l.length with hi | hi
  · rw [List.getElem?_eq_getElem hi] at hv
    simp only [Option.map_some, Option.some.injEq] at hv
    rw [← hv]; exact h i hi
  · rw [List.getElem?_eq_none hi] at hv; simp at hv

theorem below_drew (w : World) : Below w.heap.size w w.drew := (Below.refl _ _).drew
theorem below_alloc (w : World) (o : Obj) : Below w.heap.size w (w.alloc o) := (Below.refl _ _).alloc (Nat.le_refl _) o
theorem below_step {w w' w'' : World} (h : Below w.heap.size w w') (h' : Below w'.heap.size w' w'') : Below w.heap.size w w'' := h.trans (h'.mono h.size)

/-- a slice of bytes, from i to j -/
theorem BS.cut {w : World} {a : Option Addr} {cap : Nat} {l : List UInt8} {i : Nat} (j : Nat) (h : CS w a (cap - i) 1 ((l.map u8v).drop (i * 1))) : BS w a (cap - i) ((l.drop i).take (j - i)) := by
  have h' : BS w a (cap - i) (l.drop i) := by
    unfold BS
    rw [List.map_drop]
    rwa [Nat.mul_one] at h
  exact h'.take _

/-! ### any operation whose run is known -/
theorem wpList_by {P : Program} {w : World} {ops : Array Oper} {rest : List Oper} {o : Oper} {a : Act} {Q : Exit → Act → World → Prop} (R : Value → World → Prop)
    (hw : Region.wanted o (yielded ops a.tmps) = true) (h : ∃ v w', (execOp a.eval o).run P w = .ok (.value v) w' ∧ R v w')
    (hK : ∀ v w', R v w' → wpList P ops Q rest (a.put o.dst v) w') : wpList P ops Q (o :: rest) a w := by
  obtain ⟨v, w', hr, hR⟩ := h
  unfold wpList
  rw [if_pos hw]
  left
  unfold Oper.wp
  rw [hr]
  exact hK v w' hR

/-! ### slice expressions: the new address is left open -/
theorem CS.cut {w : World} {a : Option Addr} {cap sz : Nat} {xs : List Value} (h : CS w a cap sz xs) (i : Nat) (hi : i ≤ cap) (_hs : 0 < sz) :
    CS w (if cap = i then a else a.map (·.add (i * sz))) (cap - i) sz (xs.drop (i * sz)) := by
  refine ⟨by rw [List.length_drop, Nat.sub_mul]; have := h.fit; omega, by have := h.max; omega, ?_, ?_⟩
  · intro hn
    split at hn
    · omega
    · cases ha : a with
      | none => have := h.none ha; omega
      | some x => rw [ha] at hn; simp at hn
  · by_cases hd : xs.drop (i * sz) = []
    · exact .inl hd
    · right
      have hlt : i * sz < xs.length := by
        rcases Nat.lt_or_ge (i * sz) xs.length with h | h
        · exact h
        · exact (hd (List.drop_eq_nil_of_le h)).elim
      obtain ⟨b, off, rfl, hh⟩ := h.at (by omega)
      have hne : cap ≠ i := by
        rintro rfl
        have := h.fit; omega
      rw [if_neg hne]
      by_cases h0 : i * sz = 0
      · refine ⟨b, off, by simp [Addr.add, h0], fun j v hv => hh j v ?_⟩
        rw [h0] at hv; simpa using hv
      · refine ⟨b, off + i * sz, by simp [Addr.add, h0], fun j v hv => ?_⟩
        rw [List.getElem?_drop] at hv
        have := hh _ v hv
        rw [← Nat.add_assoc] at this
        exact this

theorem run_sliceBound_nat {P : Program} {w : World} (k : IntKind) (y n : Nat) (code : BoundsCode) (hn : n ≤ y) :
    (Instr.sliceBound (.int k (n : Int)) y code).run P w = .ok n w := by
  rw [run_sliceBound w k _ y code (by omega) (by omega)]
  simp

/-- 'x[i:j]' of a slice of e's, i and j given as numbers -/
theorem run_slice_cut {P : Program} {w : World} (t e : TypeId) (info : TypeInfo) (sz : Nat) (ht : P.underlying t = some (.slice e)) (hi : P.info? e = some info) (hz : info.size = sz) (hs : 0 < sz)
    {a : Option Addr} {n cap : Nat} {xs : List Value} (h : CS w a cap sz xs) (lo hi' : Option Value) (i j : Nat)
    (hlo : lo = some (.int .i64 (i : Int)) ∨ (lo = none ∧ i = 0)) (hhi : hi' = some (.int .i64 (j : Int)) ∨ (hi' = none ∧ j = n)) (hij : i ≤ j) (hj : j ≤ cap) :
    ∃ a', (Instr.slice t (.slice a n cap) lo hi' none).run P w = .ok (.slice a' (j - i) (cap - i)) w ∧ CS w a' (cap - i) sz (xs.drop (i * sz)) := by
  refine ⟨_, ?_, h.cut i (by omega) hs⟩
  have hel : (Go.sizeOf e).run P w = .ok sz w := by simp [sizeOf, typeInfo, hi, hz]
  have hb : (Instr.sliceBounds true n cap lo hi' none).run P w = .ok (i, j, cap) w := by
    rcases hlo with rfl | ⟨rfl, rfl⟩ <;> rcases hhi with rfl | ⟨rfl, rfl⟩ <;>
      simp [Instr.sliceBounds, run_sliceBound_nat, hij, hj, Result.andThen]
  simp only [Instr.slice, Sem.run_bind, run_underlying ht, Result.andThen, hb, hel, Sem.run_pure]

theorem wpList_slice_cut {P : Program} {w : World} {ops : Array Oper} {rest : List Oper} {o : Oper} {ac : Act} {Q : Exit → Act → World → Prop}
    (t : TypeId) (x : Operand) (lo hi' : Option Operand) (ho : o.op = Op.slice t x lo hi' none) (hw : Region.wanted o (yielded ops ac.tmps) = true)
    (e : TypeId) (info : TypeInfo) (sz : Nat) (ht : P.underlying t = some (.slice e)) (hi : P.info? e = some info) (hz : info.size = sz) (hs : 0 < sz)
    {a : Option Addr} {n cap : Nat} {xs : List Value} (hx : ac.eval x = .slice a n cap) (h : CS w a cap sz xs) (i j : Nat)
    (hlo : lo.map ac.eval = some (.int .i64 (i : Int)) ∨ (lo = none ∧ i = 0)) (hhi : hi'.map ac.eval = some (.int .i64 (j : Int)) ∨ (hi' = none ∧ j = n)) (hij : i ≤ j) (hj : j ≤ cap)
    (hK : ∀ a', CS w a' (cap - i) sz (xs.drop (i * sz)) → wpList P ops Q rest (ac.put o.dst (.slice a' (j - i) (cap - i))) w) : wpList P ops Q (o :: rest) ac w := by
  obtain ⟨a', hr, hc⟩ := run_slice_cut (P := P) (w := w) t e info sz ht hi hz hs (n := n) h (lo.map ac.eval) (hi'.map ac.eval) i j
    (hlo.imp id fun ⟨h1, h2⟩ => ⟨by rw [h1]; rfl, h2⟩) (hhi.imp id fun ⟨h1, h2⟩ => ⟨by rw [h1]; rfl, h2⟩) hij hj
  refine wpList_by (fun v w' => v = .slice a' (j - i) (cap - i) ∧ w' = w) hw ⟨_, _, ?_, rfl, rfl⟩ (by rintro v w' ⟨rfl, rfl⟩; exact hK a' hc)
  simp only [execOp, ho, hx, Sem.run_bind, Result.andThen, Sem.run_pure]
  simp [hr, Instr.sliceAt, run_underlying ht, Result.andThen]

/-! ### append onto a row of the call's own, whatever the source -/
theorem oneCell_u8v (l : List UInt8) : ∀ u ∈ l.map u8v, u.oneCell' = true := by
  intro u hu
  obtain ⟨c, _, rfl⟩ := List.mem_map.1 hu
  rfl

theorem run_append_cs {P : Program} {w : World} (base : Nat) (t ty e : TypeId) (i : TypeInfo) (z : Value) (size bytes : Nat) (ht : P.underlying t = some (.slice e)) (hi : P.info? e = some i) (hz : i.zero = some z)
    (hsize : i.size = size) (hby : i.bytes = bytes) (hzs : z.cells.size = size) (hsz : 0 < size)
    (v : Value) (n : Nat) (xs : List Value) (hown : w.ownsRow base e size v n xs)
    {a : Option Addr} {m c : Nat} {news : List Value} (hl : news.length = m * size) (hc : CS w a c size news) (hm : m ≤ c) (h1 : ∀ u ∈ news, u.oneCell' = true)
    (h63 : n + m ≤ maxLen) (hbytes : (n + m) * bytes ≤ 140737488355328) (hbase : base ≤ w.heap.size) :
    ∃ v' w', (Builtin.append_ #[t, t] ty #[v, .slice a m c]).run P w = .ok v' w' ∧ w'.ownsRow base e size v' (n + m) (xs ++ news) ∧ w.grownBy w' v.ownBlock ∧
      (v' = .slice none 0 0 ↔ v = .slice none 0 0 ∧ m = 0) := by
  cases a with
  | none =>
    have h0 := hc.none rfl
    subst h0
    obtain rfl : m = 0 := by omega
    obtain rfl : news = [] := List.eq_nil_of_length_eq_zero (by simpa using hl)
    refine ⟨v, w, run_append_owned_none (P := P) w base t ty e i size ht hi v n xs hown, by simpa using hown, ⟨rfl, rfl, rfl, Nat.le_refl _, fun _ _ _ => rfl⟩, by simp⟩
  | some x =>
    refine run_append_own (P := P) w base t ty e i z size bytes ht hi hz hsize hby hzs hsz v n xs hown x m c news hl ?_ h1 h63 hbytes hbase
    intro j u hj
    have hpos : 0 < news.length := by
      rcases Nat.lt_or_ge j news.length with h | h
      · omega
      · rw [List.getElem?_eq_none h] at hj; cases hj
    obtain ⟨b, off, e', hh⟩ := hc.at hpos
    cases e'
    have := hh j u hj
    unfold Addr.add
    split
    · rename_i h0; subst h0; simpa using this
    · exact this

theorem wpList_append_cs {P : Program} {w : World} {ops : Array Oper} {rest : List Oper} {o : Oper} {ac : Act} {Q : Exit → Act → World → Prop}
    (s x : Operand) (t : TypeId) (ho : o.op = .call { callee := .builtin .append, args := #[s, x], argTypes := #[t, t] }) (hw : Region.wanted o (yielded ops ac.tmps) = true)
    (base : Nat) (e : TypeId) (i : TypeInfo) (z : Value) (size bytes : Nat) (ht : P.underlying t = some (.slice e)) (hi : P.info? e = some i) (hz : i.zero = some z)
    (hsize : i.size = size) (hby : i.bytes = bytes) (hzs : z.cells.size = size) (hsz : 0 < size)
    (v : Value) (n : Nat) (xs : List Value) (hs : ac.eval s = v) (hown : w.ownsRow base e size v n xs)
    {a : Option Addr} {m c : Nat} {news : List Value} (hx : ac.eval x = .slice a m c) (hl : news.length = m * size) (hc : CS w a c size news) (hm : m ≤ c) (h1 : ∀ u ∈ news, u.oneCell' = true)
    (h63 : n + m ≤ maxLen) (hbytes : (n + m) * bytes ≤ 140737488355328) (hbase : base ≤ w.heap.size)
    (hK : ∀ v' w', w'.ownsRow base e size v' (n + m) (xs ++ news) → w.grownBy w' v.ownBlock → (v' = .slice none 0 0 ↔ v = .slice none 0 0 ∧ m = 0) → wpList P ops Q rest (ac.put o.dst v') w') :
    wpList P ops Q (o :: rest) ac w := by
  obtain ⟨v', w', hr, h2, h3, h4⟩ := run_append_cs (P := P) (w := w) base t o.type e i z size bytes ht hi hz hsize hby hzs hsz v n xs hown hl hc hm h1 h63 hbytes hbase
  refine wpList_by (fun v1 w1 => v1 = v' ∧ w1 = w') hw ⟨_, _, ?_, rfl, rfl⟩ (by rintro v1 w1 ⟨rfl, rfl⟩; exact hK _ _ h2 h3 h4)
  simp only [execOp, ho, resolve, invoke, builtin, Sem.run_bind, Sem.run_pure, Result.andThen_ok, List.map_toArray, List.map_cons, List.map_nil, hs, hx, hr]

/-- what is owned can be read -/
theorem ownsRow_cs {w : World} {base : Nat} {e : TypeId} {size : Nat} {v : Value} {n : Nat} {xs : List Value} (h : w.ownsRow base e size v n xs) :
    ∃ a cap, v = .slice a n cap ∧ n ≤ cap ∧ CS w a cap size xs ∧ (∀ x, a = some x → x.off = 0 ∧ x.spot = none ∧ base ≤ x.block ∧ x.block < w.heap.size) := by
  rcases h.2 with ⟨rfl, rfl⟩ | ⟨g, cap, cur, rfl, hb, hg, hnc, hcm, hcs, htake⟩
  · have hx : xs = [] := List.eq_nil_of_length_eq_zero (by simpa using h.1)
    subst hx
    exact ⟨none, 0, rfl, Nat.le_refl _, ⟨by simp, by simp [maxLen], fun _ => rfl, .inl rfl⟩, by simp⟩
  · have hlt : g < w.heap.size := (Array.getElem?_eq_some_iff.1 hg).1
    refine ⟨_, _, rfl, hnc, ⟨by rw [h.1]; exact Nat.mul_le_mul_right _ hnc, hcm, by simp, .inr ⟨g, 0, rfl, fun i v hv => ?_⟩⟩, by rintro x ⟨⟩; exact ⟨rfl, rfl, hb, hlt⟩⟩
    have := h.cells (g := g) rfl i v hv
    unfold Addr.add at this
    split at this
    · rename_i h0; subst h0; exact this
    · exact this

/-- bytes that the call owns -/
def OB (w : World) (base : Nat) (e : TypeId) (v : Value) (l : List UInt8) : Prop := w.ownsRow base e 1 v l.length (l.map u8v)

theorem OB.bs {w : World} {base : Nat} {e : TypeId} {v : Value} {l : List UInt8} (h : OB w base e v l) :
    ∃ a cap, v = .slice a l.length cap ∧ BS w a cap l ∧ (∀ x, a = some x → x.off = 0 ∧ x.spot = none ∧ base ≤ x.block ∧ x.block < w.heap.size) := by
  obtain ⟨a, cap, h1, _, h3, h4⟩ := ownsRow_cs h
  exact ⟨a, cap, h1, h3, h4⟩

theorem grownBy_below {w w' : World} {row : Option Nat} {base : Nat} (hg : w.grownBy w' row) (hb : base ≤ w.heap.size) (hr : ∀ k, row = some k → base ≤ k) : Below base w w' :=
  (Below.refl base w).grown hg hb hr

theorem OB.below {w w' : World} {base : Nat} {e : TypeId} {v : Value} {l : List UInt8} (h : OB w base e v l) (hb : Below w.heap.size w w') : OB w' base e v l := by
  refine ⟨h.1, h.2.imp id ?_⟩
  rintro ⟨g, cap, cur, hv, hg, hh, r⟩
  exact ⟨g, cap, cur, hv, hg, by rw [hb.block g (Array.getElem?_eq_some_iff.1 hh).1]; exact hh, r⟩

theorem OB.base {w : World} {base base' : Nat} {e : TypeId} {v : Value} {l : List UInt8} (h : OB w base e v l) (hb : base' ≤ base) : OB w base' e v l := by
  refine ⟨h.1, h.2.imp id ?_⟩
  rintro ⟨g, cap, cur, hv, hg, r⟩
  exact ⟨g, cap, cur, hv, by omega, r⟩

theorem OB.ownBlock {w : World} {base : Nat} {e : TypeId} {v : Value} {l : List UInt8} (h : OB w base e v l) : ∀ k, v.ownBlock = some k → base ≤ k := fun k hk => (h.lt k hk).1

theorem wpList_append_b {P : Program} {w : World} {ops : Array Oper} {rest : List Oper} {o : Oper} {ac : Act} {Q : Exit → Act → World → Prop}
    (s x : Operand) (t : TypeId) (ho : o.op = .call { callee := .builtin .append, args := #[s, x], argTypes := #[t, t] }) (hw : Region.wanted o (yielded ops ac.tmps) = true)
    (base : Nat) (e : TypeId) (hinf : (P.info? e).map (fun i => (i.zero, i.size, i.bytes)) = some (some (.int .u8 0), 1, 1)) (ht : P.underlying t = some (.slice e))
    (v : Value) (l : List UInt8) (hown : OB w base e v l) (hs : ac.eval s = v)
    {a : Option Addr} {c : Nat} {l' : List UInt8} (hc : BS w a c l') (hx : ac.eval x = .slice a l'.length c)
    (hbytes : l.length + l'.length ≤ 140737488355328) (hbase : base ≤ w.heap.size)
    (hK : ∀ v' w', OB w' base e v' (l ++ l') → w.grownBy w' v.ownBlock → Below base w w' → (v' = .slice none 0 0 ↔ v = .slice none 0 0 ∧ l' = []) → wpList P ops Q rest (ac.put o.dst v') w') :
    wpList P ops Q (o :: rest) ac w := by
  obtain ⟨i, hi, hz0, hz1, hz2⟩ := info_parts hinf
  refine wpList_append_cs s x t ho hw base e i _ 1 1 ht hi hz0 hz1 hz2 rfl (by decide) v l.length _ hs hown hx (news := l'.map u8v) (by simp) hc hc.fit' (oneCell_u8v _) (by unfold maxLen; omega) (by omega) hbase ?_
  intro v' w' h1 h2 h3
  refine hK v' w' (by unfold OB; simpa using h1) h2 (grownBy_below h2 hbase hown.ownBlock) ?_
  rw [h3]
  constructor
  · rintro ⟨h, h'⟩; exact ⟨h, List.eq_nil_of_length_eq_zero h'⟩
  · rintro ⟨h, rfl⟩; exact ⟨h, rfl⟩

/-- a literal of bytes, just laid -/
theorem OB.lit {w : World} {base : Nat} (e : TypeId) (l : List UInt8) (hb : base ≤ w.heap.size) (hm : l.length ≤ maxLen) : OB (w.alloc (.cells (l.map u8v).toArray e)) base e (.slice (some ⟨w.heap.size, 0, none⟩) l.length l.length) l := by
  refine ⟨by simp, .inr ⟨w.heap.size, l.length, _, rfl, hb, heap_alloc_new w _, Nat.le_refl _, hm, by simp, by simp [List.take_of_length_le]⟩⟩

/-! ### a row of one-cell elements that the call owns, and stores into -/
theorem row_store {w : World} {base : Nat} {e : TypeId} {g n cap : Nat} {xs : List Value} (h : w.ownsRow base e 1 (.slice (some ⟨g, 0, none⟩) n cap) n xs) (j : Nat) (u : Value) :
    (w.setCell ⟨g, j, none⟩ u).ownsRow base e 1 (.slice (some ⟨g, 0, none⟩) n cap) n (xs.set j u) ∧ Below base w (w.setCell ⟨g, j, none⟩ u) := by
  refine ⟨(h.stored j u).1, (Below.refl _ _).setCell ?_ u⟩
  exact (h.lt g rfl).1

theorem row_at {w : World} {base : Nat} {e : TypeId} {g n cap : Nat} {xs : List Value} (h : w.ownsRow base e 1 (.slice (some ⟨g, 0, none⟩) n cap) n xs) (j : Nat) (hj : j < n) {u : Value} (hu : xs[j]? = some u) :
    w.cell? ⟨g, j, none⟩ = some u ∧ w.frozen? ⟨g, j, none⟩ = false :=
  ⟨by rw [h.cellAt j (by omega), hu], h.frozenAt j⟩

theorem row_made (w : World) {base : Nat} {e : TypeId} {v : Value} {n : Nat} {z : Value} (hz : z.cells = #[z]) (h : w.ownsRow base e 1 v n (madeCells z.cells (n * 1)).toList) : w.ownsRow base e 1 v n (List.replicate n z) := by
  rw [hz, Nat.mul_one, toList_madeCells_one] at h
  exact h

/-- a literal of bytes, just laid, read -/
theorem lit_bs (w : World) (e : TypeId) (l : List UInt8) (hm : l.length ≤ maxLen) : BS (w.alloc (.cells (l.map u8v).toArray e)) (some ⟨w.heap.size, 0, none⟩) l.length l := by
  obtain ⟨a, c, h1, h2, _⟩ := (OB.lit (w := w) e l (Nat.le_refl _) hm).bs
  simp only [Value.slice.injEq] at h1
  obtain ⟨rfl, _, rfl⟩ := h1
  exact h2

/-- 'p[i:j]' of bytes: what stands from i on is known still -/
theorem wpList_cut {P : Program} {w : World} {ops : Array Oper} {rest : List Oper} {o : Oper} {ac : Act} {Q : Exit → Act → World → Prop}
    (t : TypeId) (x : Operand) (lo hi' : Option Operand) (ho : o.op = Op.slice t x lo hi' none) (hw : Region.wanted o (yielded ops ac.tmps) = true)
    (e : TypeId) (hinf : (P.info? e).map (fun i => (i.zero, i.size, i.bytes)) = some (some (.int .u8 0), 1, 1)) (ht : P.underlying t = some (.slice e))
    {a : Option Addr} {n cap : Nat} {l : List UInt8} (hx : ac.eval x = .slice a n cap) (h : BS w a cap l) (i j : Nat)
    (hlo : lo.map ac.eval = some (.int .i64 (i : Int)) ∨ (lo = none ∧ i = 0)) (hhi : hi'.map ac.eval = some (.int .i64 (j : Int)) ∨ (hi' = none ∧ j = n)) (hij : i ≤ j) (hj : j ≤ cap)
    (hK : ∀ a', BS w a' (cap - i) (l.drop i) → wpList P ops Q rest (ac.put o.dst (.slice a' (j - i) (cap - i))) w) : wpList P ops Q (o :: rest) ac w := by
  obtain ⟨info, h1, _, h3, _⟩ := info_parts hinf
  refine wpList_slice_cut t x lo hi' ho hw e info 1 ht h1 h3 (by decide) hx h i j hlo hhi hij hj fun a' hc => hK a' ?_
  unfold BS
  rw [List.map_drop]
  rwa [Nat.mul_one] at hc

/-! ### bytes as a string -/
theorem run_convert_b {P : Program} {w : World} (src dst e : TypeId) (hs : P.underlying src = some (.slice e)) (he : P.underlying e = some (.int .u8)) (hd : P.underlying dst = some .string)
    {a : Option Addr} {c : Nat} {l : List UInt8} (h : BS w a c l) : (convert src dst (.slice a l.length c)).run P w = .ok (.string ⟨l.toArray⟩) w := by
  rcases l with _ | ⟨x, l⟩
  · rw [run_convert_bytes_string w src dst e _ _ _ hs he hd]
    cases a with
    | none => simp [Conv.bytesToString]; rfl
    | some x => simp [Conv.bytesToString, loadCells, loadCellsFrom]; rfl
  · obtain ⟨b, off, rfl, hh⟩ := h.at (by simp)
    have := run_convert_bytes_arg (P := P) w src e hs he b off (x :: l).length c ((x :: l).map fun c => (c.toNat : Int)) (by simp) (fun i hi => by
      rw [hh i hi, List.getD_eq_getElem?_getD, List.getElem?_map, List.getElem?_eq_getElem hi]
      rfl) dst hd
    rw [this]
    unfold strOfNums
    congr 3
    rw [List.map_map]
    have e : ((fun n : Int => UInt8.ofNat n.toNat) ∘ fun c : UInt8 => (c.toNat : Int)) = id := by funext c; simp
    rw [e, List.map_id]

end Go.Quad

/- Objects in memory: what changed and what didn't; a block known whole. -/
namespace Go.Quad
open Go.RowKit

/-- of the blocks that were there none has changed but those of S -/
structure Chg (S : List Nat) (w w' : World) : Prop where
  os : w'.os = w.os
  tape : w'.tape = w.tape
  output : w'.output = w.output
  size : w.heap.size ≤ w'.heap.size
  block : ∀ k, k < w.heap.size → k ∉ S → w'.heap[k]? = w.heap[k]?

theorem Chg.refl (S : List Nat) (w : World) : Chg S w w := ⟨rfl, rfl, rfl, Nat.le_refl _, fun _ _ _ => rfl⟩
theorem Chg.trans {S : List Nat} {a b c : World} (h : Chg S a b) (k : Chg S b c) : Chg S a c :=
  ⟨k.os.trans h.os, k.tape.trans h.tape, k.output.trans h.output, Nat.le_trans h.size k.size, fun i hi hs => (k.block i (Nat.lt_of_lt_of_le hi h.size) hs).trans (h.block i hi hs)⟩
theorem Chg.mono {S T : List Nat} {w w' : World} (h : Chg S w w') (hs : ∀ k ∈ S, k ∈ T ∨ w.heap.size ≤ k) : Chg T w w' :=
  ⟨h.os, h.tape, h.output, h.size, fun k hk ht => h.block k hk fun hm => by rcases hs k hm with h1 | h1; exact ht h1; omega⟩
theorem Chg.of_below {w w' : World} (S : List Nat) (h : Below w.heap.size w w') : Chg S w w' := ⟨h.os, h.tape, h.output, h.size, fun k hk _ => h.block k hk⟩
theorem Chg.below {S : List Nat} {B : Nat} {w w' : World} (h : Chg S w w') (hB : B ≤ w.heap.size) (hs : ∀ k ∈ S, B ≤ k) : Below B w w' :=
  ⟨h.os, h.tape, h.output, h.size, fun k hk => h.block k (by omega) fun hm => by have := hs k hm; omega⟩
theorem Chg.below0 {w w' : World} (h : Chg [] w w') : Below w.heap.size w w' := h.below (Nat.le_refl _) (by simp)
theorem chg_setCell (w : World) (g i : Nat) (v : Value) : Chg [g] w (w.setCell ⟨g, i, none⟩ v) :=
  ⟨rfl, rfl, rfl, by simp [World.setCell], fun k _ hs => Below.heap_setCell _ _ _ _ (by simpa using hs)⟩

/-- a block of cells known whole -/
def Blk (w : World) (g : Nat) (cs : List Value) (t : TypeId) : Prop := w.heap[g]? = some (.cells cs.toArray t (0, 0))

theorem Blk.lt {w : World} {g : Nat} {cs : List Value} {t : TypeId} (h : Blk w g cs t) : g < w.heap.size := (Array.getElem?_eq_some_iff.1 h).1
theorem Blk.keep {S : List Nat} {w w' : World} {g : Nat} {cs : List Value} {t : TypeId} (h : Blk w g cs t) (hc : Chg S w w') (hg : g ∉ S) : Blk w' g cs t := by
  unfold Blk; rw [hc.block g h.lt hg]; exact h
theorem Blk.below {w w' : World} {g : Nat} {cs : List Value} {t : TypeId} (h : Blk w g cs t) (hc : Below w.heap.size w w') : Blk w' g cs t := h.keep (Chg.of_below [] hc) (by simp)
theorem Blk.cell {w : World} {g : Nat} {cs : List Value} {t : TypeId} (h : Blk w g cs t) (i : Nat) : w.cell? ⟨g, i, none⟩ = cs[i]? := by
  rw [cell_of_row w g i _ t (0, 0) h]; simp
theorem Blk.free {w : World} {g : Nat} {cs : List Value} {t : TypeId} (h : Blk w g cs t) (i : Nat) : w.frozen? ⟨g, i, none⟩ = false := frozen_of_row w g i _ t h
theorem Blk.set {w : World} {g : Nat} {cs : List Value} {t : TypeId} (h : Blk w g cs t) (i : Nat) (v : Value) : Blk (w.setCell ⟨g, i, none⟩ v) g (cs.set i v) t := by
  unfold Blk
  rw [heap_setCell_same w g i _ t v h]
  simp
theorem blk_alloc (w : World) (cs : List Value) (t : TypeId) : Blk (w.alloc (.cells cs.toArray t)) w.heap.size cs t := heap_alloc_new w _

/-- rows of structs of sz cells each -/
theorem flat_get {α : Type} (f : α → List Value) (sz : Nat) (hf : ∀ x, (f x).length = sz) : ∀ (l : List α) (i j : Nat) (x : α), l[i]? = some x → j < sz → (l.flatMap f)[i * sz + j]? = (f x)[j]?
  | [], i, j, x, h, _ => by simp at h
  | y :: l, 0, j, x, h, hj => by
    simp only [List.getElem?_cons_zero, Option.some.injEq] at h
    subst h
    rw [List.flatMap_cons, Nat.zero_mul, Nat.zero_add, List.getElem?_append_left (by rw [hf]; exact hj)]
  | y :: l, i + 1, j, x, h, hj => by
    rw [List.flatMap_cons, List.getElem?_append_right (by rw [hf, Nat.add_mul]; omega), hf]
    rw [show (i + 1) * sz + j - sz = i * sz + j from by rw [Nat.add_mul]; omega]
    exact flat_get f sz hf l i j x (by simpa using h) hj

theorem flat_set {α : Type} (f : α → List Value) (sz : Nat) (hf : ∀ x, (f x).length = sz) : ∀ (l : List α) (i j : Nat) (x x' : α) (v : Value), l[i]? = some x → j < sz → f x' = (f x).set j v →
    (l.flatMap f).set (i * sz + j) v = (l.set i x').flatMap f
  | [], i, j, x, x', v, h, _, _ => by simp at h
  | y :: l, 0, j, x, x', v, h, hj, he => by
    simp only [List.getElem?_cons_zero, Option.some.injEq] at h
    subst h
    rw [List.flatMap_cons, Nat.zero_mul, Nat.zero_add, List.set_append_left _ _ (by rw [hf]; exact hj), List.set_cons_zero, List.flatMap_cons, he]
  | y :: l, i + 1, j, x, x', v, h, hj, he => by
    rw [List.flatMap_cons, List.set_append_right _ _ (by rw [hf, Nat.add_mul]; omega), hf, List.set_cons_succ, List.flatMap_cons]
    rw [show (i + 1) * sz + j - sz = i * sz + j from by rw [Nat.add_mul]; omega]
    rw [flat_set f sz hf l i j x x' v (by simpa using h) hj he]

theorem flat_length {α : Type} (f : α → List Value) (sz : Nat) (hf : ∀ x, (f x).length = sz) (l : List α) : (l.flatMap f).length = l.length * sz := by
  induction l with
  | nil => simp
  | cons x l ih => rw [List.flatMap_cons, List.length_append, hf, ih, List.length_cons, Nat.add_mul]; omega
theorem OB.chg {S : List Nat} {w w' : World} {base : Nat} {e : TypeId} {v : Value} {l : List UInt8} (h : OB w base e v l) (hc : Chg S w w') (hs : ∀ k, v.ownBlock = some k → k ∉ S) : OB w' base e v l := by
  refine ⟨h.1, ?_⟩
  rcases h.2 with h0 | ⟨g, cap, cur, rfl, hb, hg, h1, h2, h3, h4⟩
  · exact .inl h0
  · have hlt : g < w.heap.size := (Array.getElem?_eq_some_iff.1 hg).1
    exact .inr ⟨g, cap, cur, rfl, hb, by rw [hc.block g hlt (hs g rfl)]; exact hg, h1, h2, h3, h4⟩

theorem OB.ownLt {w : World} {base : Nat} {e : TypeId} {v : Value} {l : List UInt8} (h : OB w base e v l) {k : Nat} (hk : v.ownBlock = some k) : k < w.heap.size := by
  rcases h.2 with ⟨rfl, _⟩ | ⟨g, cap, cur, rfl, hb, hg, _⟩
  · cases hk
  · cases hk
    exact (Array.getElem?_eq_some_iff.1 hg).1

theorem chg_grown {w w' : World} {row : Option Nat} (h : w.grownBy w' row) : Chg row.toList w w' :=
  ⟨h.os, h.tape, h.output, h.size, fun k hk hs => h.block k hk (by rintro rfl; exact hs (by simp))⟩

/-- an append to bytes that the call owns, and where the new ones lie -/
theorem wpList_append_at {P : Program} {w : World} {ops : Array Oper} {rest : List Oper} {o : Oper} {ac : Act} {Q : Exit → Act → World → Prop}
    (s x : Operand) (t : TypeId) (ho : o.op = .call { callee := .builtin .append, args := #[s, x], argTypes := #[t, t] }) (hw : Region.wanted o (yielded ops ac.tmps) = true)
    (base : Nat) (e : TypeId) (hinf : (P.info? e).map (fun i => (i.zero, i.size, i.bytes)) = some (some (.int .u8 0), 1, 1)) (ht : P.underlying t = some (.slice e))
    (v : Value) (l : List UInt8) (hown : OB w base e v l) (hs : ac.eval s = v)
    {a : Option Addr} {c : Nat} {l' : List UInt8} (hc : BS w a c l') (hx : ac.eval x = .slice a l'.length c)
    (hbytes : l.length + l'.length ≤ 140737488355328) (hbase : base ≤ w.heap.size)
    (hK : ∀ v' w', OB w' base e v' (l ++ l') → w.grownBy w' v.ownBlock → (v'.ownBlock = v.ownBlock ∨ v'.ownBlock = some w.heap.size) → wpList P ops Q rest (ac.put o.dst v') w') :
    wpList P ops Q (o :: rest) ac w := by
  obtain ⟨i, hi, hz0, hz1, hz2⟩ := info_parts hinf
  have key : ∃ v' w', (Builtin.append_ #[t, t] o.type #[v, .slice a l'.length c]).run P w = .ok v' w' ∧ w'.ownsRow base e 1 v' (l.length + l'.length) (l.map u8v ++ l'.map u8v) ∧ w.grownBy w' v.ownBlock ∧ (v'.ownBlock = v.ownBlock ∨ v'.ownBlock = some w.heap.size) := by
    cases a with
    | none =>
      have h0 := CS.none hc rfl
      subst h0
      have hl0 : l' = [] := List.eq_nil_of_length_eq_zero (by have := CS.fit hc; simpa using this)
      subst hl0
      exact ⟨v, w, run_append_owned_none (P := P) w base t o.type e i 1 ht hi v _ _ hown, by have hh : w.ownsRow base e 1 v l.length (l.map u8v) := hown; simpa using hh, ⟨rfl, rfl, rfl, Nat.le_refl _, fun _ _ _ => rfl⟩, .inl rfl⟩
    | some y =>
      obtain ⟨v', w', h1, h2, h3, _, h5⟩ := run_append_own_at (P := P) w base t o.type e i _ 1 1 ht hi hz0 hz1 hz2 rfl (by decide) v _ _ hown y l'.length c (l'.map u8v) (by simp) (by
        intro j u hj
        have hpos : 0 < (l'.map u8v).length := by
          rcases Nat.lt_or_ge j (l'.map u8v).length with h | h
          · omega
          · rw [List.getElem?_eq_none h] at hj; cases hj
        obtain ⟨b, off, e', hh⟩ := CS.at hc hpos
        cases e'
        have := hh j u hj
        unfold Addr.add
        split
        · rename_i h0; subst h0; simpa using this
        · exact this) (oneCell_u8v _) (by unfold maxLen; omega) (by omega) hbase
      exact ⟨v', w', h1, h2, h3, h5⟩
  obtain ⟨v', w', hr, h2, h3, h4⟩ := key
  refine wpList_by (fun v1 w1 => v1 = v' ∧ w1 = w') hw ⟨_, _, ?_, rfl, rfl⟩ (by rintro v1 w1 ⟨rfl, rfl⟩; exact hK _ _ (by unfold OB; simpa using h2) h3 h4)
  simp only [execOp, ho, resolve, invoke, builtin, Sem.run_bind, Sem.run_pure, Result.andThen_ok, List.map_toArray, List.map_cons, List.map_nil, hs, hx, hr]
end Go.Quad

/- What a law's row hands to its walk: a slice of bytes that came in reads as bytes. -/
namespace Go.Quad
open Go.RowKit

theorem bs_of_row {w : World} {x : Addr} {len cap : Nat} {zs : List Int} (hl : len ≤ cap) (hm : cap ≤ maxLen) (hz : zs.length = cap)
    (hcell : ∀ i, i < zs.length → w.cell? (x.add i) = some (.int .u8 (zs.getD i 0))) (hw : ∀ n ∈ zs, (Lit.int .u8 n).wf = true) : ∃ l : List UInt8, l.length = len ∧ BS w (some x) cap l := by
  by_cases h0 : len = 0
  · subst h0
    exact ⟨[], rfl, ⟨by simp, hm, by simp, .inl (by simp)⟩⟩
  · obtain ⟨b, off, spot⟩ := x
    have hc := hcell 0 (by omega)
    have hspot : spot = none := by simpa [Addr.add] using World.cell?_spot hc
    subst hspot
    refine ⟨(zs.take len).map fun z => UInt8.ofNat z.toNat, by simp; omega, BS.of_row (len := len) (by simp; omega) hl hm fun i hi => ?_⟩
    have hi' : i < len := by simp at hi; omega
    have hci := hcell i (by omega)
    have hadd : (⟨b, off, none⟩ : Addr).add i = ⟨b, off + i, none⟩ := by unfold Addr.add; split <;> simp_all
    rw [hadd] at hci
    rw [hci]
    have hb := bounds_u8 (hw (zs.getD i 0) (by rw [List.getD_eq_getElem?_getD, List.getElem?_eq_getElem (by omega)]; exact List.getElem_mem _))
    simp only [List.getElem_map, List.getElem_take]
    rw [List.getD_eq_getElem?_getD, List.getElem?_eq_getElem (by omega)] at hb ⊢
    simp only [Option.getD_some] at hb ⊢
    congr 2
    generalize zs[i]'(by omega) = z at hb
    have : (UInt8.ofNat z.toNat).toNat = z.toNat := by simp; omega
    rw [this]
    omega

theorem bs_of_nil (w : World) : ∃ l : List UInt8, l.length = 0 ∧ BS w none 0 l := ⟨[], rfl, BS.nil w⟩
end Go.Quad

/- What came in as data, opened part by part: integers, bools, bytes, structs, slices of whatever. -/
namespace Go.Quad
open Go.RowKit Go.ChangeShapes Go.WideShapes

/-- cells that read as data of the type t -/
def RC (P : Program) (w : World) (t : TypeId) (cs : List Value) : Prop :=
  ∃ (H : Type) (enc : TypeId × Value → H) (base : Nat) (spare : Nat → Bool) (held : Bool) (n : Nat) (x : DataW H × List MemPlace), DataW.trod enc P w base spare held n t cs = some x

theorem RC.int {P : Program} {w : World} {t : TypeId} {cs : List Value} {k : IntKind} (h : RC P w t cs) (ht : P.underlying t = some (.int k)) : ∃ n, cs = [.int k n] ∧ (Lit.int k n).wf = true := by
  obtain ⟨H, enc, base, spare, held, n, x, h⟩ := h
  obtain ⟨z, hc, _, hw⟩ := DataW.trod_int ht h
  exact ⟨z, hc, hw⟩

theorem RC.bool {P : Program} {w : World} {t : TypeId} {cs : List Value} (h : RC P w t cs) (ht : P.underlying t = some .bool) : ∃ b, cs = [.bool b] := by
  obtain ⟨H, enc, base, spare, held, n, x, h⟩ := h
  obtain ⟨z, hc, _⟩ := DataW.trod_bool ht h
  exact ⟨z, hc⟩

theorem RC.len {P : Program} {w : World} {t : TypeId} {cs : List Value} {fs : Array Field} (h : RC P w t cs) (ht : P.underlying t = some (.struct fs)) : cs.length = P.cellsOf t := by
  obtain ⟨H, enc, base, spare, held, n, x, h⟩ := h
  obtain ⟨_, _, _, _, hl, _⟩ := DataW.trod_struct ht h
  exact hl

theorem RC.field {P : Program} {w : World} {t : TypeId} {cs : List Value} {fs : Array Field} (h : RC P w t cs) (ht : P.underlying t = some (.struct fs)) (i : Nat) (f : Field) (hf : fs[i]? = some f) :
    RC P w f.type ((cs.drop f.offset).take (P.cellsOf f.type)) := by
  obtain ⟨H, enc, base, spare, held, n, x, h⟩ := h
  obtain ⟨xs, m, _, _, _, hl, hg⟩ := DataW.trod_struct ht h
  have hi : i < fs.size := (Array.getElem?_eq_some_iff.1 hf).1
  exact ⟨H, enc, base, spare, held, m, _, (hg i f hf).trans (List.getElem?_eq_getElem (by omega))⟩

theorem RC.fld {P : Program} {w : World} {t : TypeId} {cs : List Value} {fs : Array Field} (h : RC P w t cs) (ht : P.underlying t = some (.struct fs)) (i : Nat) (ty : TypeId) (off sz : Nat)
    (hf : (fs[i]?).map (fun f => (f.type, f.offset)) = some (ty, off)) (hs : P.cellsOf ty = sz) : RC P w ty ((cs.drop off).take sz) := by
  rw [Option.map_eq_some_iff] at hf
  obtain ⟨f, h1, h2⟩ := hf
  cases h2
  subst hs
  exact h.field ht i f h1

theorem flatten_len {sz : Nat} : ∀ {E : List (List Value)}, (∀ x ∈ E, x.length = sz) → E.flatten.length = E.length * sz
  | [], _ => by simp
  | x :: E, h => by
    rw [List.flatten_cons, List.length_append, flatten_len fun y hy => h y (List.mem_cons_of_mem _ hy), h x (List.mem_cons_self ..), List.length_cons, Nat.add_mul]
    omega

theorem flatten_get {sz : Nat} : ∀ {E : List (List Value)}, (∀ x ∈ E, x.length = sz) → ∀ (i j : Nat) (x : List Value), E[i]? = some x → j < sz → E.flatten[i * sz + j]? = x[j]?
  | [], _, i, j, x, h, _ => by simp at h
  | y :: E, he, 0, j, x, h, hj => by
    simp only [List.getElem?_cons_zero, Option.some.injEq] at h
    subst h
    rw [List.flatten_cons, Nat.zero_mul, Nat.zero_add, List.getElem?_append_left (by rw [he y (List.mem_cons_self ..)]; exact hj)]
  | y :: E, he, i + 1, j, x, h, hj => by
    have hy := he y (List.mem_cons_self ..)
    rw [List.flatten_cons, List.getElem?_append_right (by rw [hy, Nat.add_mul]; omega), hy]
    rw [show (i + 1) * sz + j - sz = i * sz + j from by rw [Nat.add_mul]; omega]
    exact flatten_get (fun z hz => he z (List.mem_cons_of_mem _ hz)) i j x (by simpa using h) hj

/-- a slice of whatever: its elements, each of sz cells -/
theorem RC.slice {P : Program} {w : World} {t e : TypeId} {cs : List Value} (h : RC P w t cs) (ht : P.underlying t = some (.slice e)) (sz : Nat) (hz : P.cellsOf e = sz) (h0 : 0 < sz) :
    ∃ (a : Option Addr) (cap : Nat) (E : List (List Value)), cs = [.slice a E.length cap] ∧ (∀ x ∈ E, x.length = sz ∧ RC P w e x) ∧ E.length ≤ cap ∧ CS w a cap sz E.flatten := by
  obtain ⟨H, enc, base, spare, held, n, x, h⟩ := h
  rcases Go.Deep.open_slice ht h with ⟨hc, _⟩ | ⟨a, len, cap, m, n, D, Pl, hc, _, hl, hm, hmm, _, hi⟩
  · exact ⟨none, 0, [], hc, by simp, by simp, by simp, by simp [maxLen], fun _ => rfl, .inl rfl⟩
  · have hlm : len ≤ m := by rw [hmm]; split <;> omega
    obtain ⟨C, hC⟩ := Go.Deep.choose_lt (α := List Value) (n := len) (p := fun i c => w.cells? base (a.add (i * P.cellsOf e)) (P.cellsOf e) = some c ∧ RC P w e c) (fun i hi' => by
      obtain ⟨c, h1, h2⟩ := hi i (by omega)
      exact ⟨c, h1, H, enc, base, spare, held, n, _, h2⟩)
    rw [hz] at hC
    have hE : ∀ x ∈ (List.range len).map C, x.length = sz ∧ RC P w e x := by
      intro x hx
      obtain ⟨i, hi', rfl⟩ := List.mem_map.1 hx
      have := hC i (by simpa using hi')
      exact ⟨(World.cells?_some this.1).2.1, this.2⟩
    have hlen : ((List.range len).map C).length = len := by simp
    have hfl := flatten_len fun x hx => (hE x hx).1
    rw [hlen] at hfl
    refine ⟨some a, cap, (List.range len).map C, by rw [hlen]; exact hc, hE, by rw [hlen]; exact hl, by rw [hfl]; exact Nat.mul_le_mul_right _ hl, hm, by simp, ?_⟩
    rcases Nat.eq_zero_or_pos len with h00 | h00
    · left; subst h00; rfl
    · right
      have cell : ∀ i j, i < len → j < sz → w.cell? (a.add (i * sz + j)) = (C i)[j]? := fun i j hi' hj => by
        have := (World.cells?_some (hC i hi').1).2.2 j hj
        rw [Go.Deep.add_add] at this
        exact this
      obtain ⟨b, off, spot⟩ := a
      have c0 := cell 0 0 h00 h0
      have l0 : 0 < (C 0).length := by rw [(World.cells?_some (hC 0 h00).1).2.1]; exact h0
      rw [List.getElem?_eq_getElem l0] at c0
      have hspot : spot = none := by simpa [Addr.add] using World.cell?_spot c0
      subst hspot
      refine ⟨b, off, rfl, fun i v hv => ?_⟩
      have hlt : i < len * sz := by
        rcases Nat.lt_or_ge i ((List.range len).map C).flatten.length with h | h
        · omega
        · rw [List.getElem?_eq_none h] at hv; cases hv
      have hq : i / sz < len := by rw [Nat.div_lt_iff_lt_mul h0]; exact hlt
      have hi' : i / sz * sz + i % sz = i := by rw [Nat.mul_comm]; exact Nat.div_add_mod i sz
      have hg := flatten_get (fun x hx => (hE x hx).1) (i / sz) (i % sz) (C (i / sz)) (by simp [hq]) (Nat.mod_lt _ h0)
      have hcl := cell (i / sz) (i % sz) hq (Nat.mod_lt _ h0)
      rw [hi'] at hg hcl
      rw [hg] at hv
      rw [hv] at hcl
      have hadd : (⟨b, off, none⟩ : Addr).add i = ⟨b, off + i, none⟩ := by unfold Addr.add; split <;> simp_all
      rw [hadd] at hcl
      exact hcl

/-- a slice of bytes -/
theorem RC.bytes {P : Program} {w : World} {t e : TypeId} {cs : List Value} (h : RC P w t cs) (ht : P.underlying t = some (.slice e)) (he : P.underlying e = some (.int .u8)) (hz : P.cellsOf e = 1) :
    ∃ (a : Option Addr) (cap : Nat) (l : List UInt8), cs = [.slice a l.length cap] ∧ BS w a cap l := by
  obtain ⟨a, cap, E, hc, hE, hl, hcs⟩ := h.slice ht 1 hz (by decide)
  have key : ∀ E : List (List Value), (∀ x ∈ E, x.length = 1 ∧ RC P w e x) → ∃ l : List UInt8, l.length = E.length ∧ E.flatten = l.map u8v := by
    intro E
    induction E with
    | nil => intro _; exact ⟨[], rfl, rfl⟩
    | cons x E ih =>
      intro h
      obtain ⟨l, h1, h2⟩ := ih fun y hy => h y (List.mem_cons_of_mem _ hy)
      obtain ⟨n, hx, hw⟩ := (h x (List.mem_cons_self ..)).2.int he
      have hb := bounds_u8 hw
      refine ⟨UInt8.ofNat n.toNat :: l, by simp [h1], ?_⟩
      rw [List.flatten_cons, h2, hx, List.map_cons]
      have e : u8v (UInt8.ofNat n.toNat) = .int .u8 n := by
        unfold u8v
        have : (UInt8.ofNat n.toNat).toNat = n.toNat := by simp; omega
        rw [this]
        congr 1
        omega
      rw [e]
      rfl
  obtain ⟨l, h1, h2⟩ := key E hE
  refine ⟨a, cap, l, by rw [h1]; exact hc, ?_⟩
  unfold BS
  rw [← h2]
  exact hcs

/-- a value that reads as data -/
def RV (P : Program) (w : World) (t : TypeId) (v : Value) : Prop := RC P w t v.cells.toList ∧ ∃ r b, Value.okWide P w r b t v

theorem RV.mk {H : Type} {enc : TypeId × Value → H} {P : Program} {w : World} {base : Nat} {spare : Nat → Bool} {held : Bool} {t : TypeId} {v : Value} {d : DataW H} {p : List MemPlace} {r : Reach} {b0 : Nat}
    (h : DataW.Trod enc P w base spare held t v d p) (hv : Value.okWide P w r b0 t v) : RV P w t v := by
  obtain ⟨n, h⟩ := h
  exact ⟨⟨H, enc, base, spare, held, n, _, h⟩, r, b0, hv⟩

theorem RV.slice {P : Program} {w : World} {t e : TypeId} {v : Value} (h : RV P w t v) (ht : P.underlying t = some (.slice e)) (sz : Nat) (hz : P.cellsOf e = sz) (h0 : 0 < sz) :
    ∃ (a : Option Addr) (cap : Nat) (E : List (List Value)), v = .slice a E.length cap ∧ (∀ x ∈ E, x.length = sz ∧ RC P w e x) ∧ E.length ≤ cap ∧ CS w a cap sz E.flatten := by
  obtain ⟨h1, r, b, h2⟩ := h
  obtain ⟨a', len', cap', rfl⟩ := okWide_slice ht h2
  obtain ⟨a, cap, E, hc, hE, hl, hcs⟩ := h1.slice ht sz hz h0
  simp [Value.cells] at hc
  obtain ⟨rfl, rfl, rfl⟩ := hc
  exact ⟨_, _, E, rfl, hE, hl, hcs⟩

theorem RV.bytes {P : Program} {w : World} {t e : TypeId} {v : Value} (h : RV P w t v) (ht : P.underlying t = some (.slice e)) (he : P.underlying e = some (.int .u8)) (hz : P.cellsOf e = 1) :
    ∃ (a : Option Addr) (cap : Nat) (l : List UInt8), v = .slice a l.length cap ∧ BS w a cap l := by
  obtain ⟨h1, r, b, h2⟩ := h
  obtain ⟨a', len', cap', rfl⟩ := okWide_slice ht h2
  obtain ⟨a, cap, l, hc, hcs⟩ := h1.bytes ht he hz
  simp [Value.cells] at hc
  obtain ⟨rfl, rfl, rfl⟩ := hc
  exact ⟨_, _, l, rfl, hcs⟩

theorem RV.struct {P : Program} {w : World} {t : TypeId} {v : Value} {fs : Array Field} (h : RV P w t v) (ht : P.underlying t = some (.struct fs)) :
    ∃ cs : List Value, v = .agg cs.toArray ∧ cs.length = P.cellsOf t ∧ RC P w t cs := by
  obtain ⟨h1, r, b, h2⟩ := h
  obtain ⟨cs, rfl, hs⟩ := okWide_struct ht h2
  exact ⟨cs.toList, by simp, by simpa using hs, by simpa [Value.cells] using h1⟩
end Go.Quad

/- Rows of whatever elements that the call owns: what was made, what was appended. -/
namespace Go.Quad
open Go.RowKit

/-- the call owns a row of these -/
def RO {α : Type} (f : α → List Value) (sz : Nat) (w : World) (base : Nat) (e : TypeId) (v : Value) (l : List α) : Prop := w.ownsRow base e sz v l.length (l.flatMap f)

theorem RO.nil {α : Type} (f : α → List Value) (sz : Nat) (w : World) (base : Nat) (e : TypeId) : RO f sz w base e (.slice none 0 0) [] := World.ownsRow_nil w base e sz

theorem RO.below {α : Type} {f : α → List Value} {sz : Nat} {w w' : World} {base : Nat} {e : TypeId} {v : Value} {l : List α} (h : RO f sz w base e v l) (hb : Below w.heap.size w w') : RO f sz w' base e v l := by
  refine ⟨h.1, h.2.imp id ?_⟩
  rintro ⟨g, cap, cur, hv, hg, hh, r⟩
  exact ⟨g, cap, cur, hv, hg, by rw [hb.block g (Array.getElem?_eq_some_iff.1 hh).1]; exact hh, r⟩

theorem RO.chg {α : Type} {f : α → List Value} {sz : Nat} {S : List Nat} {w w' : World} {base : Nat} {e : TypeId} {v : Value} {l : List α} (h : RO f sz w base e v l) (hc : Chg S w w') (hs : ∀ k, v.ownBlock = some k → k ∉ S) : RO f sz w' base e v l := by
  refine ⟨h.1, ?_⟩
  rcases h.2 with h0 | ⟨g, cap, cur, rfl, hb, hg, h1⟩
  · exact .inl h0
  · have hlt : g < w.heap.size := (Array.getElem?_eq_some_iff.1 hg).1
    exact .inr ⟨g, cap, cur, rfl, hb, by rw [hc.block g hlt (hs g rfl)]; exact hg, h1⟩

theorem RO.base' {α : Type} {f : α → List Value} {sz : Nat} {w : World} {base base' : Nat} {e : TypeId} {v : Value} {l : List α} (h : RO f sz w base e v l) (hb : base' ≤ base) : RO f sz w base' e v l := by
  refine ⟨h.1, h.2.imp id ?_⟩
  rintro ⟨g, cap, cur, hv, hg, r⟩
  exact ⟨g, cap, cur, hv, by omega, r⟩

theorem RO.ownBlock {α : Type} {f : α → List Value} {sz : Nat} {w : World} {base : Nat} {e : TypeId} {v : Value} {l : List α} (h : RO f sz w base e v l) : ∀ k, v.ownBlock = some k → base ≤ k ∧ k < w.heap.size := fun k hk => World.ownsRow.lt h k hk

theorem RO.cs {α : Type} {f : α → List Value} {sz : Nat} {w : World} {base : Nat} {e : TypeId} {v : Value} {l : List α} (h : RO f sz w base e v l) :
    ∃ a n cap, v = .slice a n cap ∧ l.length = n ∧ n ≤ cap ∧ CS w a cap sz (l.flatMap f) := by
  obtain ⟨a, cap, h1, h2, h3, _⟩ := ownsRow_cs h
  exact ⟨a, _, cap, h1, rfl, h2, h3⟩

/-- an element's cell -/
theorem cs_row {α : Type} {f : α → List Value} {sz : Nat} (hf : ∀ x, (f x).length = sz) {w : World} {a : Option Addr} {cap : Nat} {l : List α} (h : CS w a cap sz (l.flatMap f)) {k : Nat} (hk : k < l.length) (h0 : 0 < sz) :
    ∃ b off, a = some ⟨b, off, none⟩ ∧ ∀ j v, (f l[k])[j]? = some v → w.cell? ⟨b, off + k * sz + j, none⟩ = some v := by
  have hlen := flat_length f sz hf l
  have hkz : (k + 1) * sz ≤ l.length * sz := Nat.mul_le_mul_right _ hk
  rw [Nat.add_mul] at hkz
  obtain ⟨b, off, e, hc⟩ := h.at (by omega)
  refine ⟨b, off, e, fun j v hv => ?_⟩
  have hj : j < sz := by
    rcases Nat.lt_or_ge j (f l[k]).length with h1 | h1
    · rwa [hf] at h1
    · rw [List.getElem?_eq_none h1] at hv; cases hv
  have := hc (k * sz + j) v (by rw [flat_get f sz hf l k j _ (List.getElem?_eq_getElem hk) hj]; exact hv)
  rw [← Nat.add_assoc] at this
  exact this

/-- an append, onto a row that the call owns -/
theorem wpList_append_ro {α : Type} {f : α → List Value} {sz : Nat} (hf : ∀ x, (f x).length = sz) (h1c : ∀ x, ∀ u ∈ f x, u.oneCell' = true) (hsz : 0 < sz)
    {P : Program} {w : World} {ops : Array Oper} {rest : List Oper} {o : Oper} {ac : Act} {Q : Exit → Act → World → Prop}
    (s x : Operand) (t : TypeId) (ho : o.op = .call { callee := .builtin .append, args := #[s, x], argTypes := #[t, t] }) (hw : Region.wanted o (yielded ops ac.tmps) = true)
    (base : Nat) (e : TypeId) (z : Value) (bytes : Nat) (hinf : (P.info? e).map (fun i => (i.zero, i.size, i.bytes)) = some (some z, sz, bytes)) (hzs : z.cells.size = sz) (ht : P.underlying t = some (.slice e))
    (v : Value) (l : List α) (hown : RO f sz w base e v l) (hs : ac.eval s = v)
    {a : Option Addr} {c m : Nat} {l' : List α} (hm : l'.length = m) (hc : CS w a c sz (l'.flatMap f)) (hmc : m ≤ c) (hx : ac.eval x = .slice a m c)
    (hbytes : (l.length + l'.length) * (bytes + 1) ≤ 140737488355328) (hbase : base ≤ w.heap.size)
    (hK : ∀ v' w', RO f sz w' base e v' (l ++ l') → Below base w w' → w.grownBy w' v.ownBlock → (v'.ownBlock = v.ownBlock ∨ v'.ownBlock = some w.heap.size) → wpList P ops Q rest (ac.put o.dst v') w') :
    wpList P ops Q (o :: rest) ac w := by
  obtain ⟨i, hi, hz0, hz1, hz2⟩ := info_parts hinf
  subst hm
  have h63 : l.length + l'.length ≤ maxLen := by
    have : (l.length + l'.length) * 1 ≤ (l.length + l'.length) * (bytes + 1) := Nat.mul_le_mul_left _ (by omega)
    unfold maxLen; omega
  have hby : (l.length + l'.length) * bytes ≤ 140737488355328 := Nat.le_trans (Nat.mul_le_mul_left _ (Nat.le_succ _)) hbytes
  have h1 : ∀ u ∈ l'.flatMap f, u.oneCell' = true := by
    intro u hu
    obtain ⟨y, _, hy⟩ := List.mem_flatMap.1 hu
    exact h1c y u hy
  have key : ∃ v' w', (Builtin.append_ #[t, t] o.type #[v, .slice a l'.length c]).run P w = .ok v' w' ∧ w'.ownsRow base e sz v' (l.length + l'.length) (l.flatMap f ++ l'.flatMap f) ∧ w.grownBy w' v.ownBlock ∧ (v'.ownBlock = v.ownBlock ∨ v'.ownBlock = some w.heap.size) := by
    cases a with
    | none =>
      have h0 := CS.none hc rfl
      subst h0
      have hl0 : l' = [] := List.eq_nil_of_length_eq_zero (by omega)
      subst hl0
      exact ⟨v, w, run_append_owned_none (P := P) w base t o.type e i sz ht hi v _ _ hown, by have hh : w.ownsRow base e sz v l.length (l.flatMap f) := hown; simpa using hh, ⟨rfl, rfl, rfl, Nat.le_refl _, fun _ _ _ => rfl⟩, .inl rfl⟩
    | some y =>
      obtain ⟨v', w', h1, h2, h3, _, h5⟩ := run_append_own_at (P := P) w base t o.type e i z sz bytes ht hi hz0 hz1 hz2 hzs hsz v _ _ hown y l'.length c (l'.flatMap f) (flat_length f sz hf l') (by
        intro j u hj
        have hpos : 0 < (l'.flatMap f).length := by
          rcases Nat.lt_or_ge j (l'.flatMap f).length with h | h
          · omega
          · rw [List.getElem?_eq_none h] at hj; cases hj
        obtain ⟨b, off, e', hh⟩ := CS.at hc hpos
        cases e'
        have := hh j u hj
        unfold Addr.add
        split
        · rename_i h0; subst h0; simpa using this
        · exact this) h1 h63 hby hbase
      exact ⟨v', w', h1, h2, h3, h5⟩
  obtain ⟨v', w', hr, h2, h3, h4⟩ := key
  refine wpList_by (fun v1 w1 => v1 = v' ∧ w1 = w') hw ⟨_, _, ?_, rfl, rfl⟩ (by
    rintro v1 w1 ⟨rfl, rfl⟩
    exact hK _ _ (by unfold RO; rw [List.length_append, List.flatMap_append]; exact h2) (grownBy_below h3 hbase (fun k hk => (hown.ownBlock k hk).1)) h3 h4)
  simp only [execOp, ho, resolve, invoke, builtin, Sem.run_bind, Sem.run_pure, Result.andThen_ok, List.map_toArray, List.map_cons, List.map_nil, hs, hx, hr]

/-- what changes blocks made since then changes none of those that were there then -/
theorem Chg.newer {S T : List Nat} {a b c : World} (h : Chg S a b) (k : Chg T b c) (hT : ∀ q ∈ T, a.heap.size ≤ q) : Chg S a c :=
  ⟨k.os.trans h.os, k.tape.trans h.tape, k.output.trans h.output, Nat.le_trans h.size k.size, fun i hi hs => (k.block i (Nat.lt_of_lt_of_le hi h.size) (fun hm => by have := hT i hm; omega)).trans (h.block i hi hs)⟩

theorem Blk.belowAt {B : Nat} {w w' : World} {g : Nat} {cs : List Value} {t : TypeId} (h : Blk w g cs t) (hb : Below B w w') (hg : g < B) : Blk w' g cs t := by
  unfold Blk; rw [hb.block g hg]; exact h
theorem Blk.get {w : World} {g : Nat} {cs : List Value} {t : TypeId} (h : Blk w g cs t) (i : Nat) {v : Value} (hv : cs[i]? = some v) : w.cell? ⟨g, i, none⟩ = some v := by rw [h.cell, hv]

/-- one element just laid -/
theorem cs_lit (w : World) (xs : List Value) (e : TypeId) (n sz : Nat) (h : xs.length = n * sz) (hm : n ≤ maxLen) : CS (w.alloc (.cells xs.toArray e)) (some ⟨w.heap.size, 0, none⟩) n sz xs := by
  refine ⟨by omega, hm, by simp, .inr ⟨w.heap.size, 0, rfl, fun i v hv => ?_⟩⟩
  rw [(blk_alloc w xs e).cell, Nat.zero_add]
  exact hv

/-- a row that is owned whole is a block -/
theorem blk_of_owned {w : World} {base : Nat} {e : TypeId} {g n sz : Nat} {xs : List Value} (h : w.ownsRow base e sz (.slice (some ⟨g, 0, none⟩) n n) n xs) : Blk w g xs e := by
  rcases h.2 with ⟨h0, _⟩ | ⟨g', cap, cur, hv, hb, hg, hnc, hcm, hcs, htake⟩
  · cases h0
  · cases hv
    unfold Blk
    rw [hg]
    have : cur.toList = xs := by
      rw [← htake, List.take_of_length_le]
      simp
      omega
    rw [← this]

theorem made_flat (z : Array Value) (n : Nat) (h0 : 0 < z.size) : (madeCells z (n * z.size)).toList = (List.replicate n z.toList).flatten := by
  have hE : ∀ x ∈ List.replicate n z.toList, x.length = z.size := by
    intro x hx
    rw [List.mem_replicate] at hx
    rw [hx.2]; simp
  apply List.ext_getElem?
  intro i
  by_cases hi : i < n * z.size
  · have hq : i / z.size < n := by rw [Nat.div_lt_iff_lt_mul h0]; exact hi
    have hm := Nat.mod_lt i h0
    have h1 := flatten_get hE (i / z.size) (i % z.size) z.toList (by simp [hq]) hm
    rw [Nat.mul_comm, Nat.div_add_mod] at h1
    rw [h1]
    simp [madeCells, hi, hm]
  · rw [List.getElem?_eq_none (by simp [madeCells]; omega), List.getElem?_eq_none (by rw [flatten_len hE]; simp; omega)]

theorem OB.bsN {w : World} {base : Nat} {e : TypeId} {a : Option Addr} {n c : Nat} {l : List UInt8} (h : OB w base e (.slice a n c) l) : BS w a c l := by
  obtain ⟨a', c', e, h', _⟩ := h.bs
  cases e
  exact h'
theorem bs_void {w w' : World} {a : Option Addr} {cap : Nat} (h : BS w a cap []) : BS w' a cap [] := ⟨CS.fit h, CS.max h, CS.none h, .inl rfl⟩
theorem CS.chg {S : List Nat} {w w' : World} {a : Option Addr} {cap sz : Nat} {xs : List Value} (h : CS w a cap sz xs) (hc : Chg S w w') (hs : ∀ x, a = some x → x.block ∉ S) : CS w' a cap sz xs :=
  ⟨h.fit, h.max, h.none, h.at'.imp id fun ⟨b, off, e, hh⟩ => ⟨b, off, e, fun i v hv => by
    have hv' := hh i v hv
    have hlt := World.block_lt_of_cell? w _ hv'
    rw [← hv']
    exact World.cell?_of_block (w := w) (hc.block b hlt (hs _ e))⟩⟩
theorem ob_n {w : World} {base : Nat} {e : TypeId} {v : Value} {l : List UInt8} (h : OB w base e v l) :
    ∃ a n cap, v = .slice a n cap ∧ l.length = n ∧ BS w a cap l ∧ (∀ x, a = some x → x.off = 0 ∧ x.spot = none ∧ base ≤ x.block ∧ x.block < w.heap.size) := by
  obtain ⟨a, cap, h1, h2, h3⟩ := h.bs
  exact ⟨a, _, cap, h1, rfl, h2, h3⟩
end Go.Quad

/- Bytes: what is common to all walks over bytes. -/
namespace Go.Proofs.YtoapibbbooongaaDoor
open Go.RowKit Go.Quad

theorem under_bytes : Tryd.prog.underlying 33 = some (.slice 5) := by kernel_rfl
theorem under_u8 : Tryd.prog.underlying 5 = some (.int .u8) := by kernel_rfl
theorem under_str : Tryd.prog.underlying 9 = some .string := by kernel_rfl
theorem info_u8 : (Tryd.prog.info? 5).map (fun i => (i.zero, i.size, i.bytes)) = some (some (.int .u8 0), 1, 1) := by kernel_rfl

def RetB (B : Nat) (w : World) (l : List UInt8) (e : Ending) (w' : World) : Prop := ∃ v, e = .returned v ∧ OB w' B 5 v l ∧ Below B w w'
theorem OB.empty (w : World) : OB (w.alloc (.cells #[] 5)) w.heap.size 5 (.slice (some ⟨w.heap.size, 0, none⟩) 0 0) [] := OB.lit 5 [] (Nat.le_refl _) (by simp)
theorem u8v_of' (n : Nat) (h : n < 256) : u8v (UInt8.ofNat n) = .int .u8 (n : Int) := by
  unfold u8v; simp; omega

set_option maxHeartbeats 400000 in
theorem same_calls (a a' : Option Addr) (cap cap' : Nat) (l l' : List UInt8) (w : World) (h : BS w a cap l) (h' : BS w a' cap' l') :
    Calls Tryd.prog 33 #[.slice a l.length cap, .slice a' l'.length cap'] w fun e w' => e = .returned (.bool (l == l')) ∧ w = w' := by
  have h1 := run_convert_b (P := Tryd.prog) 33 9 5 under_bytes under_u8 under_str h
  have h2 := run_convert_b (P := Tryd.prog) 33 9 5 under_bytes under_u8 under_str h'
  clear h h'
  go_enter Tryd.func33, Tryd.ntmps33
  go_wp2_with fail
  go_ret
  exact ⟨rfl, rfl⟩

set_option maxHeartbeats 400000 in
theorem clone_calls (a : Option Addr) (cap : Nat) (l : List UInt8) (w : World) (h : BS w a cap l) (hn : l.length ≤ 140737488355328) :
    Calls Tryd.prog 75 #[.slice a l.length cap] w (RetB w.heap.size w l) := by
  have e1 := fun w => Lib.run_eql_slice_nil (P := Tryd.prog) w 33 5 a l.length cap 0 0 under_bytes
  have hown := OB.empty w
  have hsrc := h.below (below_alloc w (.cells #[] 5))
  cases a with
  | none =>
    have hl : l = [] := by
      have := h.fit'; have := h.none rfl; exact List.eq_nil_of_length_eq_zero (by omega)
    subst hl
    simp only [List.length_nil, Option.isNone_none] at e1 ⊢
    go_enter Tryd.func75, Tryd.ntmps75
    go_wp2_with fail
    go_ret
    exact ⟨_, rfl, World.ownsRow_nil w _ _ _, Below.refl _ _⟩
  | some x =>
    have Hn := hid hn
    clear h hn
    go_enter Tryd.func75, Tryd.ntmps75
    go_wp2_with (at_builtin; refine wpList_append_b (.tmp 5) (.tmp 6) _ rfl rfl _ 5 info_u8 under_bytes _ _ hown rfl hsrc rfl (by have := Hn.out; simpa using this) (by simp) ?_; intro v5 w1 hown1 hg1 hb1 _)
    go_ret
    exact ⟨_, rfl, hown1, (below_alloc _ _).trans hb1⟩

theorem same_n (a a' : Option Addr) (n n' cap cap' : Nat) (l l' : List UInt8) (w : World) (h : BS w a cap l) (h' : BS w a' cap' l') (hn : l.length = n) (hn' : l'.length = n') :
    Calls Tryd.prog 33 #[.slice a n cap, .slice a' n' cap'] w fun e w' => e = .returned (.bool (l == l')) ∧ w = w' := by
  subst hn hn'; exact same_calls a a' cap cap' l l' w h h'

theorem cs_chg {S : List Nat} {w w' : World} {a : Option Addr} {cap : Nat} {l : List UInt8} (h : BS w a cap l) (hc : Chg S w w') (hs : ∀ x, a = some x → x.block ∉ S) : BS w' a cap l :=
  ⟨CS.fit h, CS.max h, CS.none h, (CS.at' h).imp id fun ⟨b, off, e, hh⟩ => ⟨b, off, e, fun i v hv => by
    have hv' := hh i v hv
    have hlt := World.block_lt_of_cell? w ⟨b, off + i, none⟩ hv'
    rw [← hv']
    exact World.cell?_of_block (w := w) (hc.block b hlt (hs _ e))⟩⟩

theorem bs_keep {S : List Nat} {w w' : World} {a : Option Addr} {cap : Nat} {l : List UInt8} (h : BS w a cap l) (hc : Chg S w w') (hs : l = [] ∨ ∀ x, a = some x → x.block ∉ S) : BS w' a cap l := by
  rcases hs with rfl | hs
  · exact ⟨CS.fit h, CS.max h, CS.none h, .inl rfl⟩
  · exact cs_chg h hc hs
end Go.Proofs.YtoapibbbooongaaDoor

/- Numbers as bytes: seven bits a byte, the low ones ahead; what is read out of bytes. -/
namespace Quad.Ink

def numL (n : Nat) : List UInt8 := if n < 128 then [UInt8.ofNat n] else UInt8.ofNat (n % 128 + 128) :: numL (n / 128)
termination_by n
decreasing_by omega

theorem numL_small {n : Nat} (h : n < 128) : numL n = [UInt8.ofNat n] := by rw [numL, if_pos h]
theorem numL_big {n : Nat} (h : 128 ≤ n) : numL n = UInt8.ofNat (n % 128 + 128) :: numL (n / 128) := by rw [numL, if_neg (by omega)]

def valL : List UInt8 → Nat
  | [] => 0
  | b :: r => b.toNat % 128 + 128 * valL r

theorem valL_num (n : Nat) : valL (numL n) = n := by
  induction n using Nat.strongRecOn with
  | _ n ih =>
    rcases Nat.lt_or_ge n 128 with h | h
    · rw [numL_small h]; simp [valL]; omega
    · rw [numL_big h, valL, ih (n / 128) (by omega)]
      simp; omega

theorem numL_inj {a b : Nat} (h : numL a = numL b) : a = b := by rw [← valL_num a, ← valL_num b, h]
theorem numL_pos (n : Nat) : 1 ≤ (numL n).length := by
  rcases Nat.lt_or_ge n 128 with h | h
  · rw [numL_small h]; simp
  · rw [numL_big h]; simp
theorem numL_len : ∀ (k n : Nat), n < 128 ^ (k + 1) → (numL n).length ≤ k + 1
  | 0, n, h => by rw [numL_small (by simpa using h)]; simp
  | k + 1, n, h => by
    rcases Nat.lt_or_ge n 128 with h1 | h1
    · rw [numL_small h1]; simp
    · rw [numL_big h1, List.length_cons]
      have := numL_len k (n / 128) (by rw [Nat.div_lt_iff_lt_mul (by decide)]; rwa [Nat.pow_succ] at h)
      omega
theorem numL_len10 {n : Nat} (h : n < 18446744073709551616) : (numL n).length ≤ 10 := numL_len 9 n (Nat.lt_of_lt_of_le h (by decide))
theorem numL_mono {a b : Nat} (h : a ≤ b) : (numL a).length ≤ (numL b).length := by
  induction a using Nat.strongRecOn generalizing b with
  | _ a ih =>
    rcases Nat.lt_or_ge a 128 with h1 | h1
    · rw [numL_small h1]; exact numL_pos b
    · rw [numL_big h1, numL_big (Nat.le_trans h1 h), List.length_cons, List.length_cons]
      have := ih (a / 128) (by omega) (Nat.div_le_div_right (c := 128) h)
      omega

/-- what stands in front, from the byte with the number i on: its number and what stands behind -/
def rd (i : Nat) : List UInt8 → Option (Nat × List UInt8)
  | [] => none
  | b :: r => if 10 ≤ i then none else if i = 9 ∧ 1 < b.toNat then none else
      if b.toNat < 128 then (if b.toNat = 0 ∧ 0 < i then none else some (b.toNat, r)) else (rd (i + 1) r).map fun x => (b.toNat % 128 + 128 * x.1, x.2)

theorem rd_num (r : List UInt8) : ∀ (i n : Nat), n < 18446744073709551616 / 128 ^ i → i ≤ 9 → (0 < i → 0 < n) → rd i (numL n ++ r) = some (n, r) := by
  intro i n
  induction n using Nat.strongRecOn generalizing i with
  | _ n ih =>
    intro h hi h0
    rcases Nat.lt_or_ge n 128 with h1 | h1
    · rw [numL_small h1, List.cons_append, List.nil_append, rd, if_neg (by omega)]
      have hb : (UInt8.ofNat n).toNat = n := by simp; omega
      rw [hb, if_neg, if_pos h1, if_neg (by omega)]
      rintro ⟨rfl, h2⟩
      simp at h
      omega
    · have h9 : i ≠ 9 := by
        rintro rfl
        simp at h
        omega
      rw [numL_big h1, List.cons_append, rd, if_neg (by omega), if_neg (by omega)]
      have hb : (UInt8.ofNat (n % 128 + 128)).toNat = n % 128 + 128 := by simp; omega
      rw [hb, if_neg (by omega), ih (n / 128) (by omega) (i + 1) (by
        have e : 18446744073709551616 / 128 ^ (i + 1) = 18446744073709551616 / 128 ^ i / 128 := by rw [Nat.pow_succ, Nat.div_div_eq_div_mul]
        have hd : ∀ j : Fin 9, 18446744073709551616 / 128 ^ j.val % 128 = 0 := by decide
        have hd' := hd ⟨i, by omega⟩
        dsimp only at hd'
        rw [e]
        omega) (by omega) (by omega)]
      simp
      omega

theorem rd_num0 (r : List UInt8) {n : Nat} (h : n < 18446744073709551616) : rd 0 (numL n ++ r) = some (n, r) := rd_num r 0 n (by simpa using h) (by omega) (by omega)

theorem rd_behind {p r : List UInt8} {i n : Nat} (h : rd i p = some (n, r)) : ∃ k, r = p.drop (k + 1) ∧ k < p.length := by
  induction p generalizing i n with
  | nil => simp [rd] at h
  | cons b q ih =>
    rw [rd] at h
    split at h
    · cases h
    · split at h
      · cases h
      · split at h
        · split at h
          · cases h
          · cases h; exact ⟨0, rfl, by simp⟩
        · rw [Option.map_eq_some_iff] at h
          obtain ⟨⟨n', r'⟩, h1, h2⟩ := h
          cases h2
          obtain ⟨k, hk, hl⟩ := ih h1
          exact ⟨k + 1, by simpa using hk, by simp; omega⟩
end Quad.Ink
