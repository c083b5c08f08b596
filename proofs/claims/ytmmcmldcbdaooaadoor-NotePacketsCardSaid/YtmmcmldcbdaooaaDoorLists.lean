/- Rows of whatever elements that the call owns: what was made, what was appended. -/
import Derived.Test.YtmmcmldcbdaooaaDoorHeap
import Derived.Test.YtmmcmldcbdaooaaDoorReads
namespace Go.Quad
open Go.RowKit

/-- the call owns a row of these -/
def RO {α : Type} (f : α → List Value) (sz : Nat) (w : World) (base : Nat) (e : TypeId) (v : Value) (l : List α) : Prop := w.ownsRow base e sz v l.length (l.flatMap f)

theorem RO.nil {α : Type} (f : α → List Value) (sz : Nat) (w : World) (base : Nat) (e : TypeId) : RO f sz w base e (.slice none 0 0) [] := World.ownsRow_nil w base e sz

theorem RO.below {α : Type} {f : α → List Value} {sz : Nat} {w w' : World} {base : Nat} {e : TypeId} {v : Value} {l : List α} (h : RO f sz w base e v l) (hb : Below w.heap.size w w') : RO f sz w' base e v l := by
  refine ⟨h.1, h.2.imp id ?_⟩
  rintro ⟨g, cap, cur, hv, hg, hh, r⟩
  exact ⟨g, cap, cur, hv, hg, by rw [hb.block g (Array.getElem?_eq_some_iff.1 hh).1]; exact hh, r⟩

theorem RO.chg {α : Type} {f : α → List Value} {sz : Nat} {S : List Nat} {w w' : World} {base : Nat} {e : TypeId} {v : Value} {l : List α} (h : RO f sz w base e v l) (hc : Chg S w w') (hs : ∀ k, v.ownBlock = some k → k ∉ S) : RO f sz w' base e v l := by
  refine ⟨h.1, ?_⟩
  rcases h.2 with h0 | ⟨g, cap, cur, rfl, hb, hg, h1⟩
  · exact .inl h0
  · have hlt : g < w.heap.size := (Array.getElem?_eq_some_iff.1 hg).1
    exact .inr ⟨g, cap, cur, rfl, hb, by rw [hc.block g hlt (hs g rfl)]; exact hg, h1⟩

theorem RO.base' {α : Type} {f : α → List Value} {sz : Nat} {w : World} {base base' : Nat} {e : TypeId} {v : Value} {l : List α} (h : RO f sz w base e v l) (hb : base' ≤ base) : RO f sz w base' e v l := by
  refine ⟨h.1, h.2.imp id ?_⟩
  rintro ⟨g, cap, cur, hv, hg, r⟩
  exact ⟨g, cap, cur, hv, by omega, r⟩

theorem RO.ownBlock {α : Type} {f : α → List Value} {sz : Nat} {w : World} {base : Nat} {e : TypeId} {v : Value} {l : List α} (h : RO f sz w base e v l) : ∀ k, v.ownBlock = some k → base ≤ k ∧ k < w.heap.size := fun k hk => World.ownsRow.lt h k hk

theorem RO.cs {α : Type} {f : α → List Value} {sz : Nat} {w : World} {base : Nat} {e : TypeId} {v : Value} {l : List α} (h : RO f sz w base e v l) :
    ∃ a n cap, v = .slice a n cap ∧ l.length = n ∧ n ≤ cap ∧ CS w a cap sz (l.flatMap f) := by
  obtain ⟨a, cap, h1, h2, h3, _⟩ := ownsRow_cs h
  exact ⟨a, _, cap, h1, rfl, h2, h3⟩

/-- an element's cell -/
theorem cs_row {α : Type} {f : α → List Value} {sz : Nat} (hf : ∀ x, (f x).length = sz) {w : World} {a : Option Addr} {cap : Nat} {l : List α} (h : CS w a cap sz (l.flatMap f)) {k : Nat} (hk : k < l.length) (h0 : 0 < sz) :
    ∃ b off, a = some ⟨b, off, none⟩ ∧ ∀ j v, (f l[k])[j]? = some v → w.cell? ⟨b, off + k * sz + j, none⟩ = some v := by
  have hlen := flat_length f sz hf l
  have hkz : (k + 1) * sz ≤ l.length * sz := Nat.mul_le_mul_right _ hk
  rw [Nat.add_mul] at hkz
  obtain ⟨b, off, e, hc⟩ := h.at (by omega)
  refine ⟨b, off, e, fun j v hv => ?_⟩
  have hj : j < sz := by
    rcases Nat.lt_or_ge j (f l[k]).length with h1 | h1
    · rwa [hf] at h1
    · rw [List.getElem?_eq_none h1] at hv; cases hv
  have := hc (k * sz + j) v (by rw [flat_get f sz hf l k j _ (List.getElem?_eq_getElem hk) hj]; exact hv)
  rw [← Nat.add_assoc] at this
  exact this

/-- an append, onto a row that the call owns -/
theorem wpList_append_ro {α : Type} {f : α → List Value} {sz : Nat} (hf : ∀ x, (f x).length = sz) (h1c : ∀ x, ∀ u ∈ f x, u.oneCell' = true) (hsz : 0 < sz)
    {P : Program} {w : World} {ops : Array Oper} {rest : List Oper} {o : Oper} {ac : Act} {Q : Exit → Act → World → Prop}
    (s x : Operand) (t : TypeId) (ho : o.op = .call { callee := .builtin .append, args := #[s, x], argTypes := #[t, t] }) (hw : Region.wanted o (yielded ops ac.tmps) = true)
    (base : Nat) (e : TypeId) (z : Value) (bytes : Nat) (hinf : (P.info? e).map (fun i => (i.zero, i.size, i.bytes)) = some (some z, sz, bytes)) (hzs : z.cells.size = sz) (ht : P.underlying t = some (.slice e))
    (v : Value) (l : List α) (hown : RO f sz w base e v l) (hs : ac.eval s = v)
    {a : Option Addr} {c m : Nat} {l' : List α} (hm : l'.length = m) (hc : CS w a c sz (l'.flatMap f)) (hmc : m ≤ c) (hx : ac.eval x = .slice a m c)
    (hbytes : (l.length + l'.length) * (bytes + 1) ≤ 140737488355328) (hbase : base ≤ w.heap.size)
    (hK : ∀ v' w', RO f sz w' base e v' (l ++ l') → Below base w w' → w.grownBy w' v.ownBlock → (v'.ownBlock = v.ownBlock ∨ v'.ownBlock = some w.heap.size) → wpList P ops Q rest (ac.put o.dst v') w') :
    wpList P ops Q (o :: rest) ac w := by
  obtain ⟨i, hi, hz0, hz1, hz2⟩ := info_parts hinf
  subst hm
  have h63 : l.length + l'.length ≤ maxLen := by
    have : (l.length + l'.length) * 1 ≤ (l.length + l'.length) * (bytes + 1) := Nat.mul_le_mul_left _ (by omega)
    unfold maxLen; omega
  have hby : (l.length + l'.length) * bytes ≤ 140737488355328 := Nat.le_trans (Nat.mul_le_mul_left _ (Nat.le_succ _)) hbytes
  have h1 : ∀ u ∈ l'.flatMap f, u.oneCell' = true := by
    intro u hu
    obtain ⟨y, _, hy⟩ := List.mem_flatMap.1 hu
    exact h1c y u hy
  have key : ∃ v' w', (Builtin.append_ #[t, t] o.type #[v, .slice a l'.length c]).run P w = .ok v' w' ∧ w'.ownsRow base e sz v' (l.length + l'.length) (l.flatMap f ++ l'.flatMap f) ∧ w.grownBy w' v.ownBlock ∧ (v'.ownBlock = v.ownBlock ∨ v'.ownBlock = some w.heap.size) := by
    cases a with
    | none =>
      have h0 := CS.none hc rfl
      subst h0
      have hl0 : l' = [] := List.eq_nil_of_length_eq_zero (by omega)
      subst hl0
      exact ⟨v, w, run_append_owned_none (P := P) w base t o.type e i sz ht hi v _ _ hown, by have hh : w.ownsRow base e sz v l.length (l.flatMap f) := hown; simpa using hh, ⟨rfl, rfl, rfl, Nat.le_refl _, fun _ _ _ => rfl⟩, .inl rfl⟩
    | some y =>
      obtain ⟨v', w', h1, h2, h3, _, h5⟩ := run_append_own_at (P := P) w base t o.type e i z sz bytes ht hi hz0 hz1 hz2 hzs hsz v _ _ hown y l'.length c (l'.flatMap f) (flat_length f sz hf l') (by
        intro j u hj
        have hpos : 0 < (l'.flatMap f).length := by
          rcases Nat.lt_or_ge j (l'.flatMap f).length with h | h
          · omega
          · rw [List.getElem?_eq_none h] at hj; cases hj
        obtain ⟨b, off, e', hh⟩ := CS.at hc hpos
        cases e'
        have := hh j u hj
        unfold Addr.add
        split
        · rename_i h0; subst h0; simpa using this
        · exact this) h1 h63 hby hbase
      exact ⟨v', w', h1, h2, h3, h5⟩
  obtain ⟨v', w', hr, h2, h3, h4⟩ := key
  refine wpList_by (fun v1 w1 => v1 = v' ∧ w1 = w') hw ⟨_, _, ?_, rfl, rfl⟩ (by
    rintro v1 w1 ⟨rfl, rfl⟩
    exact hK _ _ (by unfold RO; rw [List.length_append, List.flatMap_append]; exact h2) (grownBy_below h3 hbase (fun k hk => (hown.ownBlock k hk).1)) h3 h4)
  simp only [execOp, ho, resolve, invoke, builtin, Sem.run_bind, Sem.run_pure, Result.andThen_ok, List.map_toArray, List.map_cons, List.map_nil, hs, hx, hr]

/-- what changes blocks made since then changes none of those that were there then -/
theorem Chg.newer {S T : List Nat} {a b c : World} (h : Chg S a b) (k : Chg T b c) (hT : ∀ q ∈ T, a.heap.size ≤ q) : Chg S a c :=
  ⟨k.os.trans h.os, k.tape.trans h.tape, k.output.trans h.output, Nat.le_trans h.size k.size, fun i hi hs => (k.block i (Nat.lt_of_lt_of_le hi h.size) (fun hm => by have := hT i hm; omega)).trans (h.block i hi hs)⟩

theorem Blk.belowAt {B : Nat} {w w' : World} {g : Nat} {cs : List Value} {t : TypeId} (h : Blk w g cs t) (hb : Below B w w') (hg : g < B) : Blk w' g cs t := by
  unfold Blk; rw [hb.block g hg]; exact h
theorem Blk.get {w : World} {g : Nat} {cs : List Value} {t : TypeId} (h : Blk w g cs t) (i : Nat) {v : Value} (hv : cs[i]? = some v) : w.cell? ⟨g, i, none⟩ = some v := by rw [h.cell, hv]

/-- one element just laid -/
theorem cs_lit (w : World) (xs : List Value) (e : TypeId) (n sz : Nat) (h : xs.length = n * sz) (hm : n ≤ maxLen) : CS (w.alloc (.cells xs.toArray e)) (some ⟨w.heap.size, 0, none⟩) n sz xs := by
  refine ⟨by omega, hm, by simp, .inr ⟨w.heap.size, 0, rfl, fun i v hv => ?_⟩⟩
  rw [(blk_alloc w xs e).cell, Nat.zero_add]
  exact hv

/-- a row that is owned whole is a block -/
theorem blk_of_owned {w : World} {base : Nat} {e : TypeId} {g n sz : Nat} {xs : List Value} (h : w.ownsRow base e sz (.slice (some ⟨g, 0, none⟩) n n) n xs) : Blk w g xs e := by
  rcases h.2 with ⟨h0, _⟩ | ⟨g', cap, cur, hv, hb, hg, hnc, hcm, hcs, htake⟩
  · cases h0
  · cases hv
    unfold Blk
    rw [hg]
    have : cur.toList = xs := by
      rw [← htake, List.take_of_length_le]
      simp
      omega
    rw [← this]

theorem made_flat (z : Array Value) (n : Nat) (h0 : 0 < z.size) : (madeCells z (n * z.size)).toList = (List.replicate n z.toList).flatten := by
  have hE : ∀ x ∈ List.replicate n z.toList, x.length = z.size := by
    intro x hx
    rw [List.mem_replicate] at hx
    rw [hx.2]; simp
  apply List.ext_getElem?
  intro i
  by_cases hi : i < n * z.size
  · have hq : i / z.size < n := by rw [Nat.div_lt_iff_lt_mul h0]; exact hi
    have hm := Nat.mod_lt i h0
    have h1 := flatten_get hE (i / z.size) (i % z.size) z.toList (by simp [hq]) hm
    rw [Nat.mul_comm, Nat.div_add_mod] at h1
    rw [h1]
    simp [madeCells, hi, hm]
  · rw [List.getElem?_eq_none (by simp [madeCells]; omega), List.getElem?_eq_none (by rw [flatten_len hE]; simp; omega)]

theorem OB.bsN {w : World} {base : Nat} {e : TypeId} {a : Option Addr} {n c : Nat} {l : List UInt8} (h : OB w base e (.slice a n c) l) : BS w a c l := by
  obtain ⟨a', c', e, h', _⟩ := h.bs
  cases e
  exact h'
theorem bs_void {w w' : World} {a : Option Addr} {cap : Nat} (h : BS w a cap []) : BS w' a cap [] := ⟨CS.fit h, CS.max h, CS.none h, .inl rfl⟩
theorem CS.chg {S : List Nat} {w w' : World} {a : Option Addr} {cap sz : Nat} {xs : List Value} (h : CS w a cap sz xs) (hc : Chg S w w') (hs : ∀ x, a = some x → x.block ∉ S) : CS w' a cap sz xs :=
  ⟨h.fit, h.max, h.none, h.at'.imp id fun ⟨b, off, e, hh⟩ => ⟨b, off, e, fun i v hv => by
    have hv' := hh i v hv
    have hlt := World.block_lt_of_cell? w _ hv'
    rw [← hv']
    exact World.cell?_of_block (w := w) (hc.block b hlt (hs _ e))⟩⟩
theorem ob_n {w : World} {base : Nat} {e : TypeId} {v : Value} {l : List UInt8} (h : OB w base e v l) :
    ∃ a n cap, v = .slice a n cap ∧ l.length = n ∧ BS w a cap l ∧ (∀ x, a = some x → x.off = 0 ∧ x.spot = none ∧ base ≤ x.block ∧ x.block < w.heap.size) := by
  obtain ⟨a, cap, h1, h2, h3⟩ := h.bs
  exact ⟨a, _, cap, h1, rfl, h2, h3⟩
end Go.Quad
