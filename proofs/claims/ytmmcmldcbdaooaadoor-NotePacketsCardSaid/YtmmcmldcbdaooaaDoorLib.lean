/- Small laws over any program, in the form that the walk takes: slices that read as known cells, slice expressions, append onto a row of the call's own, bytes as a string. -/
import Derived.WalkKit
import Derived.WalkSpells
import Derived.WalkLawsBesides
namespace Go.Quad
open Go.RowKit

/-- a fact kept from the walk, behind a structure: no tactic looks through it -/
structure Kept (p : Prop) : Prop where
  out : p
theorem hid {p : Prop} (h : p) : Kept p := ⟨h⟩

/-- the value of a byte -/
def u8v (c : UInt8) : Value := .int .u8 (c.toNat : Int)

/-- THE CELLS BEHIND A SLICE's ADDRESS: the first ones are xs; room for cap elements of sz cells each. -/
structure CS (w : World) (a : Option Addr) (cap sz : Nat) (xs : List Value) : Prop where
  fit : xs.length ≤ cap * sz
  max : cap ≤ maxLen
  none : a = none → cap = 0
  at' : xs = [] ∨ ∃ b off, a = some ⟨b, off, .none⟩ ∧ ∀ i v, xs[i]? = some v → w.cell? ⟨b, off + i, .none⟩ = some v

/-- bytes -/
def BS (w : World) (a : Option Addr) (cap : Nat) (l : List UInt8) : Prop := CS w a cap 1 (l.map u8v)

theorem CS.of_cells {w w' : World} {a : Option Addr} {cap sz : Nat} {xs : List Value} (h : CS w a cap sz xs) (hc : ∀ p v, w.cell? p = some v → w'.cell? p = some v) : CS w' a cap sz xs :=
  ⟨h.fit, h.max, h.none, h.at'.imp id fun ⟨b, off, e, hh⟩ => ⟨b, off, e, fun i v hv => hc _ _ (hh i v hv)⟩⟩

theorem CS.below {w w' : World} {a : Option Addr} {cap sz : Nat} {xs : List Value} (h : CS w a cap sz xs) (hb : Below w.heap.size w w') : CS w' a cap sz xs :=
  h.of_cells fun _ _ hv => cell_later hb hv

theorem BS.below {w w' : World} {a : Option Addr} {cap : Nat} {l : List UInt8} (h : BS w a cap l) (hb : Below w.heap.size w w') : BS w' a cap l := CS.below h hb

/-- an address that isn't of this block -/
def Off (g : Nat) : Option Addr → Prop
  | some x => x.block ≠ g
  | none => True

theorem CS.other {w w' : World} {a : Option Addr} {cap sz : Nat} {xs : List Value} (h : CS w a cap sz xs) {row : Option Nat} (hg : w.grownBy w' row) (ho : ∀ g, row = some g → Off g a) : CS w' a cap sz xs :=
  ⟨h.fit, h.max, h.none, h.at'.imp id fun ⟨b, off, e, hh⟩ => ⟨b, off, e, fun i v hv => hg.cell (hh i v hv) (fun e' => by
    have := ho b e'.symm
    rw [e] at this
    exact this rfl)⟩⟩

theorem BS.other {w w' : World} {a : Option Addr} {cap : Nat} {l : List UInt8} (h : BS w a cap l) {row : Option Nat} (hg : w.grownBy w' row) (ho : ∀ g, row = some g → Off g a) : BS w' a cap l := CS.other h hg ho

theorem CS.take {w : World} {a : Option Addr} {cap sz : Nat} {xs : List Value} (h : CS w a cap sz xs) (n : Nat) : CS w a cap sz (xs.take n) := by
  refine ⟨Nat.le_trans (List.length_take_le' _ _) h.fit, h.max, h.none, ?_⟩
  rcases h.at' with rfl | ⟨b, off, e, hh⟩
  · left; simp
  · right
    refine ⟨b, off, e, fun i v hv => hh i v ?_⟩
    rw [List.getElem?_take] at hv
    split at hv
    · exact hv
    · cases hv

theorem BS.take {w : World} {a : Option Addr} {cap : Nat} {l : List UInt8} (h : BS w a cap l) (n : Nat) : BS w a cap (l.take n) := by
  have := CS.take h n
  unfold BS
  rw [List.map_take]
  exact this

theorem BS.left {w : World} {a : Option Addr} {cap : Nat} {l m : List UInt8} (h : BS w a cap (l ++ m)) : BS w a cap l := by
  have := h.take l.length
  rwa [List.take_left] at this

theorem BS.fit' {w : World} {a : Option Addr} {cap : Nat} {l : List UInt8} (h : BS w a cap l) : l.length ≤ cap := by
  have := h.fit; simpa using this

theorem CS.at {w : World} {a : Option Addr} {cap sz : Nat} {xs : List Value} (h : CS w a cap sz xs) (h0 : 0 < xs.length) : ∃ b off, a = some ⟨b, off, .none⟩ ∧ ∀ i v, xs[i]? = some v → w.cell? ⟨b, off + i, .none⟩ = some v := by
  rcases h.at' with rfl | h
  · simp at h0
  · exact h

theorem BS.at {w : World} {a : Option Addr} {cap : Nat} {l : List UInt8} (h : BS w a cap l) (h0 : 0 < l.length) : ∃ b off, a = some ⟨b, off, .none⟩ ∧ ∀ i (hi : i < l.length), w.cell? ⟨b, off + i, .none⟩ = some (.int .u8 (l[i].toNat : Int)) := by
  obtain ⟨b, off, e, hh⟩ := CS.at h (by simpa using h0)
  exact ⟨b, off, e, fun i hi => hh i _ (by simp [List.getElem?_map, List.getElem?_eq_getElem hi, u8v])⟩

/-- a byte under a name of its own -/
theorem BS.get {w : World} {a : Option Addr} {cap : Nat} {l : List UInt8} (h : BS w a cap l) (h0 : 0 < l.length) : ∃ b off, a = some ⟨b, off, .none⟩ ∧ ∀ i, i < l.length → ∃ x : Nat, (l.getD i 0).toNat = x ∧ (x : Int) ≤ 255 ∧ w.cell? ⟨b, off + i, .none⟩ = some (.int .u8 (x : Int)) := by
  obtain ⟨b, off, e, hh⟩ := h.at h0
  refine ⟨b, off, e, fun i hi => ⟨_, rfl, by have := (l.getD i 0).toNat_lt; omega, ?_⟩⟩
  rw [hh i hi]
  simp [List.getElem?_eq_getElem hi]

theorem BS.nil (w : World) : BS w none 0 [] := ⟨by simp, by simp [maxLen], fun _ => rfl, .inl (by simp)⟩

theorem BS.max' {w : World} {a : Option Addr} {cap : Nat} {l : List UInt8} (h : BS w a cap l) : l.length ≤ 9223372036854775807 := by
  have := h.fit'; have := h.max; unfold maxLen at *; omega

/-- of a slice that came in -/
theorem BS.of_row {w : World} {b off len cap : Nat} {l : List UInt8} (hl : l.length = len) (hc : len ≤ cap) (hm : cap ≤ maxLen) (h : ∀ i (hi : i < l.length), w.cell? ⟨b, off + i, none⟩ = some (.int .u8 (l[i].toNat : Int))) : BS w (some ⟨b, off, none⟩) cap l := by
  refine ⟨by simpa [hl] using hc, hm, by simp, .inr ⟨b, off, rfl, fun i v hv => ?_⟩⟩
  rw [List.getElem?_map] at hv
  rcases Nat.lt_or_ge i l.length with hi | hi
  · rw [List.getElem?_eq_getElem hi] at hv
    simp only [Option.map_some, Option.some.injEq] at hv
    rw [← hv]; exact h i hi
  · rw [List.getElem?_eq_none hi] at hv; simp at hv

theorem below_drew (w : World) : Below w.heap.size w w.drew := (Below.refl _ _).drew
theorem below_alloc (w : World) (o : Obj) : Below w.heap.size w (w.alloc o) := (Below.refl _ _).alloc (Nat.le_refl _) o
theorem below_step {w w' w'' : World} (h : Below w.heap.size w w') (h' : Below w'.heap.size w' w'') : Below w.heap.size w w'' := h.trans (h'.mono h.size)

/-- a slice of bytes, from i to j -/
theorem BS.cut {w : World} {a : Option Addr} {cap : Nat} {l : List UInt8} {i : Nat} (j : Nat) (h : CS w a (cap - i) 1 ((l.map u8v).drop (i * 1))) : BS w a (cap - i) ((l.drop i).take (j - i)) := by
  have h' : BS w a (cap - i) (l.drop i) := by
    unfold BS
    rw [List.map_drop]
    rwa [Nat.mul_one] at h
  exact h'.take _

/-! ### any operation whose run is known -/
theorem wpList_by {P : Program} {w : World} {ops : Array Oper} {rest : List Oper} {o : Oper} {a : Act} {Q : Exit → Act → World → Prop} (R : Value → World → Prop)
    (hw : Region.wanted o (yielded ops a.tmps) = true) (h : ∃ v w', (execOp a.eval o).run P w = .ok (.value v) w' ∧ R v w')
    (hK : ∀ v w', R v w' → wpList P ops Q rest (a.put o.dst v) w') : wpList P ops Q (o :: rest) a w := by
  obtain ⟨v, w', hr, hR⟩ := h
  unfold wpList
  rw [if_pos hw]
  left
  unfold Oper.wp
  rw [hr]
  exact hK v w' hR

/-! ### slice expressions: the new address is left open -/
theorem CS.cut {w : World} {a : Option Addr} {cap sz : Nat} {xs : List Value} (h : CS w a cap sz xs) (i : Nat) (hi : i ≤ cap) (_hs : 0 < sz) :
    CS w (if cap = i then a else a.map (·.add (i * sz))) (cap - i) sz (xs.drop (i * sz)) := by
  refine ⟨by rw [List.length_drop, Nat.sub_mul]; have := h.fit; omega, by have := h.max; omega, ?_, ?_⟩
  · intro hn
    split at hn
    · omega
    · cases ha : a with
      | none => have := h.none ha; omega
      | some x => rw [ha] at hn; simp at hn
  · by_cases hd : xs.drop (i * sz) = []
    · exact .inl hd
    · right
      have hlt : i * sz < xs.length := by
        rcases Nat.lt_or_ge (i * sz) xs.length with h | h
        · exact h
        · exact (hd (List.drop_eq_nil_of_le h)).elim
      obtain ⟨b, off, rfl, hh⟩ := h.at (by omega)
      have hne : cap ≠ i := by
        rintro rfl
        have := h.fit; omega
      rw [if_neg hne]
      by_cases h0 : i * sz = 0
      · refine ⟨b, off, by simp [Addr.add, h0], fun j v hv => hh j v ?_⟩
        rw [h0] at hv; simpa using hv
      · refine ⟨b, off + i * sz, by simp [Addr.add, h0], fun j v hv => ?_⟩
        rw [List.getElem?_drop] at hv
        have := hh _ v hv
        rw [← Nat.add_assoc] at this
        exact this

theorem run_sliceBound_nat {P : Program} {w : World} (k : IntKind) (y n : Nat) (code : BoundsCode) (hn : n ≤ y) :
    (Instr.sliceBound (.int k (n : Int)) y code).run P w = .ok n w := by
  rw [run_sliceBound w k _ y code (by omega) (by omega)]
  simp

/-- 'x[i:j]' of a slice of e's, i and j given as numbers -/
theorem run_slice_cut {P : Program} {w : World} (t e : TypeId) (info : TypeInfo) (sz : Nat) (ht : P.underlying t = some (.slice e)) (hi : P.info? e = some info) (hz : info.size = sz) (hs : 0 < sz)
    {a : Option Addr} {n cap : Nat} {xs : List Value} (h : CS w a cap sz xs) (lo hi' : Option Value) (i j : Nat)
    (hlo : lo = some (.int .i64 (i : Int)) ∨ (lo = none ∧ i = 0)) (hhi : hi' = some (.int .i64 (j : Int)) ∨ (hi' = none ∧ j = n)) (hij : i ≤ j) (hj : j ≤ cap) :
    ∃ a', (Instr.slice t (.slice a n cap) lo hi' none).run P w = .ok (.slice a' (j - i) (cap - i)) w ∧ CS w a' (cap - i) sz (xs.drop (i * sz)) := by
  refine ⟨_, ?_, h.cut i (by omega) hs⟩
  have hel : (Go.sizeOf e).run P w = .ok sz w := by simp [sizeOf, typeInfo, hi, hz]
  have hb : (Instr.sliceBounds true n cap lo hi' none).run P w = .ok (i, j, cap) w := by
    rcases hlo with rfl | ⟨rfl, rfl⟩ <;> rcases hhi with rfl | ⟨rfl, rfl⟩ <;>
      simp [Instr.sliceBounds, run_sliceBound_nat, hij, hj, Result.andThen]
  simp only [Instr.slice, Sem.run_bind, run_underlying ht, Result.andThen, hb, hel, Sem.run_pure]

theorem wpList_slice_cut {P : Program} {w : World} {ops : Array Oper} {rest : List Oper} {o : Oper} {ac : Act} {Q : Exit → Act → World → Prop}
    (t : TypeId) (x : Operand) (lo hi' : Option Operand) (ho : o.op = Op.slice t x lo hi' none) (hw : Region.wanted o (yielded ops ac.tmps) = true)
    (e : TypeId) (info : TypeInfo) (sz : Nat) (ht : P.underlying t = some (.slice e)) (hi : P.info? e = some info) (hz : info.size = sz) (hs : 0 < sz)
    {a : Option Addr} {n cap : Nat} {xs : List Value} (hx : ac.eval x = .slice a n cap) (h : CS w a cap sz xs) (i j : Nat)
    (hlo : lo.map ac.eval = some (.int .i64 (i : Int)) ∨ (lo = none ∧ i = 0)) (hhi : hi'.map ac.eval = some (.int .i64 (j : Int)) ∨ (hi' = none ∧ j = n)) (hij : i ≤ j) (hj : j ≤ cap)
    (hK : ∀ a', CS w a' (cap - i) sz (xs.drop (i * sz)) → wpList P ops Q rest (ac.put o.dst (.slice a' (j - i) (cap - i))) w) : wpList P ops Q (o :: rest) ac w := by
  obtain ⟨a', hr, hc⟩ := run_slice_cut (P := P) (w := w) t e info sz ht hi hz hs (n := n) h (lo.map ac.eval) (hi'.map ac.eval) i j
    (hlo.imp id fun ⟨h1, h2⟩ => ⟨by rw [h1]; rfl, h2⟩) (hhi.imp id fun ⟨h1, h2⟩ => ⟨by rw [h1]; rfl, h2⟩) hij hj
  refine wpList_by (fun v w' => v = .slice a' (j - i) (cap - i) ∧ w' = w) hw ⟨_, _, ?_, rfl, rfl⟩ (by rintro v w' ⟨rfl, rfl⟩; exact hK a' hc)
  simp only [execOp, ho, hx, Sem.run_bind, Result.andThen, Sem.run_pure]
  simp [hr, Instr.sliceAt, run_underlying ht, Result.andThen]

/-! ### append onto a row of the call's own, whatever the source -/
theorem oneCell_u8v (l : List UInt8) : ∀ u ∈ l.map u8v, u.oneCell' = true := by
  intro u hu
  obtain ⟨c, _, rfl⟩ := List.mem_map.1 hu
  rfl

theorem run_append_cs {P : Program} {w : World} (base : Nat) (t ty e : TypeId) (i : TypeInfo) (z : Value) (size bytes : Nat) (ht : P.underlying t = some (.slice e)) (hi : P.info? e = some i) (hz : i.zero = some z)
    (hsize : i.size = size) (hby : i.bytes = bytes) (hzs : z.cells.size = size) (hsz : 0 < size)
    (v : Value) (n : Nat) (xs : List Value) (hown : w.ownsRow base e size v n xs)
    {a : Option Addr} {m c : Nat} {news : List Value} (hl : news.length = m * size) (hc : CS w a c size news) (hm : m ≤ c) (h1 : ∀ u ∈ news, u.oneCell' = true)
    (h63 : n + m ≤ maxLen) (hbytes : (n + m) * bytes ≤ 140737488355328) (hbase : base ≤ w.heap.size) :
    ∃ v' w', (Builtin.append_ #[t, t] ty #[v, .slice a m c]).run P w = .ok v' w' ∧ w'.ownsRow base e size v' (n + m) (xs ++ news) ∧ w.grownBy w' v.ownBlock ∧
      (v' = .slice none 0 0 ↔ v = .slice none 0 0 ∧ m = 0) := by
  cases a with
  | none =>
    have h0 := hc.none rfl
    subst h0
    obtain rfl : m = 0 := by omega
    obtain rfl : news = [] := List.eq_nil_of_length_eq_zero (by simpa using hl)
    refine ⟨v, w, run_append_owned_none (P := P) w base t ty e i size ht hi v n xs hown, by simpa using hown, ⟨rfl, rfl, rfl, Nat.le_refl _, fun _ _ _ => rfl⟩, by simp⟩
  | some x =>
    refine run_append_own (P := P) w base t ty e i z size bytes ht hi hz hsize hby hzs hsz v n xs hown x m c news hl ?_ h1 h63 hbytes hbase
    intro j u hj
    have hpos : 0 < news.length := by
      rcases Nat.lt_or_ge j news.length with h | h
      · omega
      · rw [List.getElem?_eq_none h] at hj; cases hj
    obtain ⟨b, off, e', hh⟩ := hc.at hpos
    cases e'
    have := hh j u hj
    unfold Addr.add
    split
    · rename_i h0; subst h0; simpa using this
    · exact this

theorem wpList_append_cs {P : Program} {w : World} {ops : Array Oper} {rest : List Oper} {o : Oper} {ac : Act} {Q : Exit → Act → World → Prop}
    (s x : Operand) (t : TypeId) (ho : o.op = .call { callee := .builtin .append, args := #[s, x], argTypes := #[t, t] }) (hw : Region.wanted o (yielded ops ac.tmps) = true)
    (base : Nat) (e : TypeId) (i : TypeInfo) (z : Value) (size bytes : Nat) (ht : P.underlying t = some (.slice e)) (hi : P.info? e = some i) (hz : i.zero = some z)
    (hsize : i.size = size) (hby : i.bytes = bytes) (hzs : z.cells.size = size) (hsz : 0 < size)
    (v : Value) (n : Nat) (xs : List Value) (hs : ac.eval s = v) (hown : w.ownsRow base e size v n xs)
    {a : Option Addr} {m c : Nat} {news : List Value} (hx : ac.eval x = .slice a m c) (hl : news.length = m * size) (hc : CS w a c size news) (hm : m ≤ c) (h1 : ∀ u ∈ news, u.oneCell' = true)
    (h63 : n + m ≤ maxLen) (hbytes : (n + m) * bytes ≤ 140737488355328) (hbase : base ≤ w.heap.size)
    (hK : ∀ v' w', w'.ownsRow base e size v' (n + m) (xs ++ news) → w.grownBy w' v.ownBlock → (v' = .slice none 0 0 ↔ v = .slice none 0 0 ∧ m = 0) → wpList P ops Q rest (ac.put o.dst v') w') :
    wpList P ops Q (o :: rest) ac w := by
  obtain ⟨v', w', hr, h2, h3, h4⟩ := run_append_cs (P := P) (w := w) base t o.type e i z size bytes ht hi hz hsize hby hzs hsz v n xs hown hl hc hm h1 h63 hbytes hbase
  refine wpList_by (fun v1 w1 => v1 = v' ∧ w1 = w') hw ⟨_, _, ?_, rfl, rfl⟩ (by rintro v1 w1 ⟨rfl, rfl⟩; exact hK _ _ h2 h3 h4)
  simp only [execOp, ho, resolve, invoke, builtin, Sem.run_bind, Sem.run_pure, Result.andThen_ok, List.map_toArray, List.map_cons, List.map_nil, hs, hx, hr]

/-- what is owned can be read -/
theorem ownsRow_cs {w : World} {base : Nat} {e : TypeId} {size : Nat} {v : Value} {n : Nat} {xs : List Value} (h : w.ownsRow base e size v n xs) :
    ∃ a cap, v = .slice a n cap ∧ n ≤ cap ∧ CS w a cap size xs ∧ (∀ x, a = some x → x.off = 0 ∧ x.spot = none ∧ base ≤ x.block ∧ x.block < w.heap.size) := by
  rcases h.2 with ⟨rfl, rfl⟩ | ⟨g, cap, cur, rfl, hb, hg, hnc, hcm, hcs, htake⟩
  · have hx : xs = [] := List.eq_nil_of_length_eq_zero (by simpa using h.1)
    subst hx
    exact ⟨none, 0, rfl, Nat.le_refl _, ⟨by simp, by simp [maxLen], fun _ => rfl, .inl rfl⟩, by simp⟩
  · have hlt : g < w.heap.size := (Array.getElem?_eq_some_iff.1 hg).1
    refine ⟨_, _, rfl, hnc, ⟨by rw [h.1]; exact Nat.mul_le_mul_right _ hnc, hcm, by simp, .inr ⟨g, 0, rfl, fun i v hv => ?_⟩⟩, by rintro x ⟨⟩; exact ⟨rfl, rfl, hb, hlt⟩⟩
    have := h.cells (g := g) rfl i v hv
    unfold Addr.add at this
    split at this
    · rename_i h0; subst h0; exact this
    · exact this

/-- bytes that the call owns -/
def OB (w : World) (base : Nat) (e : TypeId) (v : Value) (l : List UInt8) : Prop := w.ownsRow base e 1 v l.length (l.map u8v)

theorem OB.bs {w : World} {base : Nat} {e : TypeId} {v : Value} {l : List UInt8} (h : OB w base e v l) :
    ∃ a cap, v = .slice a l.length cap ∧ BS w a cap l ∧ (∀ x, a = some x → x.off = 0 ∧ x.spot = none ∧ base ≤ x.block ∧ x.block < w.heap.size) := by
  obtain ⟨a, cap, h1, _, h3, h4⟩ := ownsRow_cs h
  exact ⟨a, cap, h1, h3, h4⟩

theorem grownBy_below {w w' : World} {row : Option Nat} {base : Nat} (hg : w.grownBy w' row) (hb : base ≤ w.heap.size) (hr : ∀ k, row = some k → base ≤ k) : Below base w w' :=
  (Below.refl base w).grown hg hb hr

theorem OB.below {w w' : World} {base : Nat} {e : TypeId} {v : Value} {l : List UInt8} (h : OB w base e v l) (hb : Below w.heap.size w w') : OB w' base e v l := by
  refine ⟨h.1, h.2.imp id ?_⟩
  rintro ⟨g, cap, cur, hv, hg, hh, r⟩
  exact ⟨g, cap, cur, hv, hg, by rw [hb.block g (Array.getElem?_eq_some_iff.1 hh).1]; exact hh, r⟩

theorem OB.base {w : World} {base base' : Nat} {e : TypeId} {v : Value} {l : List UInt8} (h : OB w base e v l) (hb : base' ≤ base) : OB w base' e v l := by
  refine ⟨h.1, h.2.imp id ?_⟩
  rintro ⟨g, cap, cur, hv, hg, r⟩
  exact ⟨g, cap, cur, hv, by omega, r⟩

theorem OB.ownBlock {w : World} {base : Nat} {e : TypeId} {v : Value} {l : List UInt8} (h : OB w base e v l) : ∀ k, v.ownBlock = some k → base ≤ k := fun k hk => (h.lt k hk).1

theorem wpList_append_b {P : Program} {w : World} {ops : Array Oper} {rest : List Oper} {o : Oper} {ac : Act} {Q : Exit → Act → World → Prop}
    (s x : Operand) (t : TypeId) (ho : o.op = .call { callee := .builtin .append, args := #[s, x], argTypes := #[t, t] }) (hw : Region.wanted o (yielded ops ac.tmps) = true)
    (base : Nat) (e : TypeId) (hinf : (P.info? e).map (fun i => (i.zero, i.size, i.bytes)) = some (some (.int .u8 0), 1, 1)) (ht : P.underlying t = some (.slice e))
    (v : Value) (l : List UInt8) (hown : OB w base e v l) (hs : ac.eval s = v)
    {a : Option Addr} {c : Nat} {l' : List UInt8} (hc : BS w a c l') (hx : ac.eval x = .slice a l'.length c)
    (hbytes : l.length + l'.length ≤ 140737488355328) (hbase : base ≤ w.heap.size)
    (hK : ∀ v' w', OB w' base e v' (l ++ l') → w.grownBy w' v.ownBlock → Below base w w' → (v' = .slice none 0 0 ↔ v = .slice none 0 0 ∧ l' = []) → wpList P ops Q rest (ac.put o.dst v') w') :
    wpList P ops Q (o :: rest) ac w := by
  obtain ⟨i, hi, hz0, hz1, hz2⟩ := info_parts hinf
  refine wpList_append_cs s x t ho hw base e i _ 1 1 ht hi hz0 hz1 hz2 rfl (by decide) v l.length _ hs hown hx (news := l'.map u8v) (by simp) hc hc.fit' (oneCell_u8v _) (by unfold maxLen; omega) (by omega) hbase ?_
  intro v' w' h1 h2 h3
  refine hK v' w' (by unfold OB; simpa using h1) h2 (grownBy_below h2 hbase hown.ownBlock) ?_
  rw [h3]
  constructor
  · rintro ⟨h, h'⟩; exact ⟨h, List.eq_nil_of_length_eq_zero h'⟩
  · rintro ⟨h, rfl⟩; exact ⟨h, rfl⟩

/-- a literal of bytes, just laid -/
theorem OB.lit {w : World} {base : Nat} (e : TypeId) (l : List UInt8) (hb : base ≤ w.heap.size) (hm : l.length ≤ maxLen) : OB (w.alloc (.cells (l.map u8v).toArray e)) base e (.slice (some ⟨w.heap.size, 0, none⟩) l.length l.length) l := by
  refine ⟨by simp, .inr ⟨w.heap.size, l.length, _, rfl, hb, heap_alloc_new w _, Nat.le_refl _, hm, by simp, by simp [List.take_of_length_le]⟩⟩

/-! ### a row of one-cell elements that the call owns, and stores into -/
theorem row_store {w : World} {base : Nat} {e : TypeId} {g n cap : Nat} {xs : List Value} (h : w.ownsRow base e 1 (.slice (some ⟨g, 0, none⟩) n cap) n xs) (j : Nat) (u : Value) :
    (w.setCell ⟨g, j, none⟩ u).ownsRow base e 1 (.slice (some ⟨g, 0, none⟩) n cap) n (xs.set j u) ∧ Below base w (w.setCell ⟨g, j, none⟩ u) := by
  refine ⟨(h.stored j u).1, (Below.refl _ _).setCell ?_ u⟩
  exact (h.lt g rfl).1

theorem row_at {w : World} {base : Nat} {e : TypeId} {g n cap : Nat} {xs : List Value} (h : w.ownsRow base e 1 (.slice (some ⟨g, 0, none⟩) n cap) n xs) (j : Nat) (hj : j < n) {u : Value} (hu : xs[j]? = some u) :
    w.cell? ⟨g, j, none⟩ = some u ∧ w.frozen? ⟨g, j, none⟩ = false :=
  ⟨by rw [h.cellAt j (by omega), hu], h.frozenAt j⟩

theorem row_made (w : World) {base : Nat} {e : TypeId} {v : Value} {n : Nat} {z : Value} (hz : z.cells = #[z]) (h : w.ownsRow base e 1 v n (madeCells z.cells (n * 1)).toList) : w.ownsRow base e 1 v n (List.replicate n z) := by
  rw [hz, Nat.mul_one, toList_madeCells_one] at h
  exact h

/-- a literal of bytes, just laid, read -/
theorem lit_bs (w : World) (e : TypeId) (l : List UInt8) (hm : l.length ≤ maxLen) : BS (w.alloc (.cells (l.map u8v).toArray e)) (some ⟨w.heap.size, 0, none⟩) l.length l := by
  obtain ⟨a, c, h1, h2, _⟩ := (OB.lit (w := w) e l (Nat.le_refl _) hm).bs
  simp only [Value.slice.injEq] at h1
  obtain ⟨rfl, _, rfl⟩ := h1
  exact h2

/-- 'p[i:j]' of bytes: what stands from i on is known still -/
theorem wpList_cut {P : Program} {w : World} {ops : Array Oper} {rest : List Oper} {o : Oper} {ac : Act} {Q : Exit → Act → World → Prop}
    (t : TypeId) (x : Operand) (lo hi' : Option Operand) (ho : o.op = Op.slice t x lo hi' none) (hw : Region.wanted o (yielded ops ac.tmps) = true)
    (e : TypeId) (hinf : (P.info? e).map (fun i => (i.zero, i.size, i.bytes)) = some (some (.int .u8 0), 1, 1)) (ht : P.underlying t = some (.slice e))
    {a : Option Addr} {n cap : Nat} {l : List UInt8} (hx : ac.eval x = .slice a n cap) (h : BS w a cap l) (i j : Nat)
    (hlo : lo.map ac.eval = some (.int .i64 (i : Int)) ∨ (lo = none ∧ i = 0)) (hhi : hi'.map ac.eval = some (.int .i64 (j : Int)) ∨ (hi' = none ∧ j = n)) (hij : i ≤ j) (hj : j ≤ cap)
    (hK : ∀ a', BS w a' (cap - i) (l.drop i) → wpList P ops Q rest (ac.put o.dst (.slice a' (j - i) (cap - i))) w) : wpList P ops Q (o :: rest) ac w := by
  obtain ⟨info, h1, _, h3, _⟩ := info_parts hinf
  refine wpList_slice_cut t x lo hi' ho hw e info 1 ht h1 h3 (by decide) hx h i j hlo hhi hij hj fun a' hc => hK a' ?_
  unfold BS
  rw [List.map_drop]
  rwa [Nat.mul_one] at hc

/-! ### bytes as a string -/
theorem run_convert_b {P : Program} {w : World} (src dst e : TypeId) (hs : P.underlying src = some (.slice e)) (he : P.underlying e = some (.int .u8)) (hd : P.underlying dst = some .string)
    {a : Option Addr} {c : Nat} {l : List UInt8} (h : BS w a c l) : (convert src dst (.slice a l.length c)).run P w = .ok (.string ⟨l.toArray⟩) w := by
  rcases l with _ | ⟨x, l⟩
  · rw [run_convert_bytes_string w src dst e _ _ _ hs he hd]
    cases a with
    | none => simp [Conv.bytesToString]; rfl
    | some x => simp [Conv.bytesToString, loadCells, loadCellsFrom]; rfl
  · obtain ⟨b, off, rfl, hh⟩ := h.at (by simp)
    have := run_convert_bytes_arg (P := P) w src e hs he b off (x :: l).length c ((x :: l).map fun c => (c.toNat : Int)) (by simp) (fun i hi => by
      rw [hh i hi, List.getD_eq_getElem?_getD, List.getElem?_map, List.getElem?_eq_getElem hi]
      rfl) dst hd
    rw [this]
    unfold strOfNums
    congr 3
    rw [List.map_map]
    have e : ((fun n : Int => UInt8.ofNat n.toNat) ∘ fun c : UInt8 => (c.toNat : Int)) = id := by funext c; simp
    rw [e, List.map_id]

end Go.Quad
