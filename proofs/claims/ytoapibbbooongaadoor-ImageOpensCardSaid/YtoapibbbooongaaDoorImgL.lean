/- A job's image looked up in a store's map. (Several texts in one: ImgL, ImgO.) -/
import Derived.Test.YtoapibbbooongaaDoorImgE
import Derived.Test.YtoapibbbooongaaDoorImgM
import Derived.Maps.RangeWalk

/- A job's image looked up in a store's map. -/
namespace Go.Proofs.YtoapibbbooongaaDoor
open Go.RowKit Go.Quad _root_.Quad _root_.Quad.Slab

theorem keyed32 : Maps.Keyed Tryd.prog 31 := Maps.int_keyed Tryd.underlying31
theorem keyOf32 {id : Nat} (h : id < 4294967296) : keyOf Tryd.prog 31 (.int .u32 (id : Int)) = some (idK id) := Maps.keyOf_int_mk Tryd.underlying31 (u32_wf h)
theorem zeroKept (w : World) : (zeroValue 100).run Tryd.prog w = .ok (.agg zkept.toArray) w := by kernel_rfl
theorem entR_none {v : Value} {ps : List MemPlace} (h : entR v = some (.agg [], ps)) : v = .agg zkept.toArray := by
  unfold entR at h
  split at h
  · rename_i xs
    split at h
    · cases h
    · rename_i hx
      have : xs = zkept.toArray := by rw [← Array.toArray_toList (xs := xs), hx]; rfl
      rw [this]
    · cases h
  · cases h
def lookV (r : Option Ent) : List Value := match r with | none => zkept | some e => e.V
theorem look_run {w W : World} {mb n : Nat} {D : DataW Unit} {E : List Ent} (h : w.ownsMap Tryd.prog 31 entR mb n D) (hM : MapOf Ent.key Ent.dat D E) (hb : W.heap[mb]? = w.heap[mb]?) {j : Nat} (hj : j < 4294967296) :
    (Instr.lookup 90 (.map (some mb)) (.int .u32 (j : Int)) true).run Tryd.prog W = .ok (.tuple #[.agg (lookV (E.find? (fun e => e.key == j))).toArray, .bool (E.find? (fun e => e.key == j)).isSome]) W := by
  have hW : W.ownsMap Tryd.prog 31 entR mb n D := by
    obtain ⟨es, clock, hh, F, hn, e⟩ := h
    exact ⟨es, clock, hb.trans hh, F, hn, e⟩
  obtain ⟨v, ps, hrun, hv⟩ := hW.look_ok keyed32 Tryd.underlying90 (zeroKept W) entR_zero (keyOf32 hj)
  rw [hrun]
  cases hf : E.find? (fun e => e.key == j) with
  | none =>
    obtain ⟨h1, h2⟩ := hM.missed hf
    rw [h2] at hv
    rw [h1, entR_none hv]
    rfl
  | some e =>
    obtain ⟨h1, h2, _⟩ := hM.found hf
    rw [h2] at hv
    rw [h1, entR_inv hv]
    rfl
theorem sorted_len {α : Type} {key : α → Nat} {N : Nat} : ∀ {L : List α} {lo : Nat}, L.Pairwise (fun a b => key a < key b) → (∀ x ∈ L, lo ≤ key x ∧ key x < N) → lo ≤ N → L.length + lo ≤ N
  | [], lo, _, _, h => by simpa using h
  | y :: L, lo, hp, h, _ => by
    obtain ⟨h1, h2⟩ := List.pairwise_cons.1 hp
    have hy := h y (List.mem_cons_self ..)
    have := sorted_len (L := L) (lo := key y + 1) h2 (fun x hx => ⟨h1 x hx, (h x (List.mem_cons_of_mem _ hx)).2⟩) hy.2
    rw [List.length_cons]
    omega
theorem IsSto.len {w : World} {B g c mb fg fd : Nat} {Q : Nat → Prop} {E : List Ent} {I : Im} (h : IsSto w B g c mb fg fd Q E I) : E.length ≤ 4294967296 := by
  have := sorted_len (lo := 0) h.sorted (fun x hx => ⟨Nat.zero_le _, (h.ok x hx).job⟩) (Nat.zero_le _)
  simpa using this
theorem IsSto.find {w : World} {B g c mb fg fd : Nat} {Q : Nat → Prop} {E : List Ent} {I : Im} (h : IsSto w B g c mb fg fd Q E I) (j : Nat) : findI I.L j = (E.find? (fun e => e.key == j)).map Ent.x := by
  unfold findI
  rw [← h.L, List.find?_map]
  rfl
/-- an image is laid in the map -/
theorem IsSto.put {w w' : World} {B g c mb fg fd : Nat} {Q Q0 : Nat → Prop} {E : List Ent} {I : Im} {en : Ent} (h : IsSto w B g c mb fg fd Q E I) (hc : Chg [mb] w w') (hown : ∃ D, w'.ownsMap Tryd.prog 31 entR mb (Maps.size D) D ∧ MapOf Ent.key Ent.dat D (setK Ent.key en E))
    (hat : en.At w Q0) (hQ0 : ∀ k, Q0 k → B ≤ k ∧ k < w.heap.size ∧ k ∉ [c, mb, fg, fd]) (hin : en.x.In I.used.length) : IsSto w' B g c mb fg fd (fun k => Q k ∨ Q0 k) (setK Ent.key en E) { I with L := setK Img.job en.x I.L } := by
  have nd := h.apart
  simp only [List.nodup_cons, List.mem_cons, List.not_mem_nil, or_false, not_or] at nd
  have nQ : ∀ k ∈ [mb], ¬ Q k := fun k hk hq => (h.inQ k hq).2.2 (by simp only [List.mem_singleton] at hk; subst hk; simp)
  have nQ0 : ∀ k ∈ [mb], ¬ Q0 k := fun k hk hq => (hQ0 k hq).2.2 (by simp only [List.mem_singleton] at hk; subst hk; simp)
  refine ⟨h.own.keep hc (by simp only [List.mem_singleton]; exact nd.1.1), hown, h.free.keep hc (by simp only [List.mem_singleton]; exact fun e => nd.2.1.1 e.symm) (by simp only [List.mem_singleton]; exact fun e => nd.2.1.2 e.symm), fun e he => ?_, ?_, setK_sorted _ _ h.sorted, fun e he => ?_, fun k hk => ?_, fun k hk => ⟨(h.lt k hk).1, Nat.lt_of_lt_of_le (h.lt k hk).2 hc.size⟩, h.apart, h.epoch, h.small⟩
  · rcases (setK_mem Ent.key en h.sorted e).1 he with rfl | ⟨h1, _⟩
    · exact hat.keep hc nQ0 (fun _ h => .inr h)
    · exact (h.lists e h1).keep hc nQ (fun _ h => .inl h)
  · rw [setK_map Ent.x Ent.key Img.job (fun _ => rfl) en h.sorted, h.L]
  · rcases (setK_mem Ent.key en h.sorted e).1 he with rfl | ⟨h1, _⟩
    · exact hin
    · exact h.ok e h1
  · rcases hk with hk | hk
    · exact ⟨(h.inQ k hk).1, Nat.lt_of_lt_of_le (h.inQ k hk).2.1 hc.size, (h.inQ k hk).2.2⟩
    · exact ⟨(hQ0 k hk).1, Nat.lt_of_lt_of_le (hQ0 k hk).2.1 hc.size, (hQ0 k hk).2.2⟩
theorem there_in {G : Nat → BlkD × Nat} {n a : Nat} {x : Img} (h : thereI G n a = some x) (ha : a < n) (hok : (G a).1.Ok) : x.In n := by
  have hp := there_places h ha
  obtain ⟨h0, h1, l, h2, rfl⟩ := there_some.1 h
  obtain ⟨_, k2, k3, k4, k5, k6, k7⟩ := headOk_iff.1 h1
  have hl := (blobsI_some.1 h2).1
  exact ⟨hok.a, hok.b, ⟨by show (0 : Int) ≤ ((creditOf _ : Nat) : Int); omega, by show ((creditOf _ : Nat) : Int) ≤ 10000; omega⟩, ⟨by show 1 ≤ l.length; omega, by show l.length ≤ 16; omega⟩, by simp [hl], fun p hp' => (hp.2 p hp').1⟩
theorem wpList_next_st {ops : Array Oper} {rest : List Oper} {o : Oper} {a : Act} {Qq : Exit → Act → World → Prop} (w : World) (hg : o.guard = none) (it : Operand) (hop : o.op = Op.next it false) (mb r n : Nat) (D : DataW Unit) (left : Lit → Bool) (cnt : Nat) (E : List Ent)
    (hit : a.eval it = .pointer (some ⟨r, 0, none⟩)) (h : w.ranges Tryd.prog 31 entR mb r n D left cnt) (hM : MapOf Ent.key Ent.dat D E)
    (hDone : (∀ kl, left kl = false) → wpList Tryd.prog ops Qq rest (a.put o.dst (.tuple #[.bool false])) w)
    (hMore : ∀ e ∈ E, ∀ (w' : World) (cnt' : Nat), left (idK e.key) = true → w'.ranges Tryd.prog 31 entR mb r n D (fun z => left z && !z.sameKey (idK e.key)) cnt' → cnt' < cnt → Chg [r] w w' →
      (Instr.entry (.pointer (some ⟨r, 0, none⟩))).run Tryd.prog w' = .ok (.tuple #[.int .u32 (e.key : Int), .agg e.V.toArray]) w' → wpList Tryd.prog ops Qq rest (a.put o.dst (.tuple #[.bool true, .int .u32 (e.key : Int), .agg e.V.toArray])) w') :
    wpList Tryd.prog ops Qq (o :: rest) a w := by
  refine wpList_next_ranges w hg it hop 31 keyed32 entR (fun x : Int => .int .u32 x) (fun v : Value => v) (fun key kl hk => ?_) (fun v y _ => ⟨v, rfl⟩) mb r n D left cnt hit h (fun _ hl => hDone hl) ?_
  · obtain ⟨x, e, _⟩ := Maps.keyOf_int_inv Tryd.underlying31 hk
    exact ⟨x, e⟩
  · intro x c kl y w' cnt' hk hl hR hat hrg hlt hgr hsz hen
    obtain ⟨x', e1, e2, hwf⟩ := Maps.keyOf_int_inv Tryd.underlying31 hk
    cases e1
    have hx0 : 0 ≤ x := by
      simp only [Lit.wf, IntKind.min, IntKind.max, IntKind.signed, IntKind.bits, Bool.and_eq_true] at hwf
      have := hwf.1
      simpa using this
    obtain ⟨id, rfl⟩ : ∃ id : Nat, x = (id : Int) := ⟨x.toNat, by omega⟩
    have hhas : Maps.has D (idK id) = true := by
      cases hh : Maps.has D (idK id) with
      | true => rfl
      | false =>
        have h1 := Maps.atKey_of_not_has hh (.agg [])
        have h2 := Maps.atKey_of_not_has hh (.map [])
        rw [show idK id = kl from e2.symm] at h1 h2
        rw [hat] at h1 h2
        rw [h1] at h2
        cases h2
    rw [hM.has] at hhas
    obtain ⟨e, he, rfl⟩ := any_key.1 hhas
    have hd := hM.at' e he (.agg [])
    rw [show idK e.key = kl from e2.symm, hat] at hd
    obtain rfl : c = .agg e.V.toArray := entR_inv (ps := y.2) (by rw [hR, ← hd])
    rw [show kl = idK e.key from e2] at hl hrg
    exact hMore e he w' cnt' hl hrg hlt (chg_grown hgr) hen
/-- marks are changed -/
theorem IsSto.marks {w w' : World} {B g c mb fg fd : Nat} {Q : Nat → Prop} {E : List Ent} {I : Im} (h : IsSto w B g c mb fg fd Q E I) {m : List Bool} (hc : Chg [fg, fd] w w') (hm : IsMp w' fg fd m) (hl : m.length = I.used.length) : IsSto w' B g c mb fg fd Q E { I with used := m } := by
  have nd := h.apart
  simp only [List.nodup_cons, List.mem_cons, List.not_mem_nil, or_false, not_or] at nd
  have no : ∀ k ∈ [c, mb], k ∉ [fg, fd] := by
    intro k hk hm
    simp only [List.mem_cons, List.not_mem_nil, or_false] at hk hm
    rcases hk with rfl | rfl
    · rcases hm with h | h
      · exact nd.1.2.1 h
      · exact nd.1.2.2 h
    · rcases hm with h | h
      · exact nd.2.1.1 h
      · exact nd.2.1.2 h
  have nQ : ∀ k ∈ [fg, fd], ¬ Q k := fun k hk hq => (h.inQ k hq).2.2 (by
    simp only [List.mem_cons, List.not_mem_nil, or_false] at hk
    rcases hk with rfl | rfl <;> simp)
  obtain ⟨D, h1, h2⟩ := h.map
  have ho := h.own.keep hc (no c (by simp))
  refine ⟨?_, ⟨D, ownsMap_keep h1 hc (no mb (by simp)), h2⟩, hm, fun e he => (h.lists e he).keep hc nQ (fun _ h => h), h.L, h.sorted, fun e he => ?_, fun k hk => ⟨(h.inQ k hk).1, Nat.lt_of_lt_of_le (h.inQ k hk).2.1 hc.size, (h.inQ k hk).2.2⟩, fun k hk => ⟨(h.lt k hk).1, Nat.lt_of_lt_of_le (h.lt k hk).2 hc.size⟩, h.apart, h.epoch, ?_⟩
  · have e : stoV g mb fg { I with used := m } = stoV g mb fg I := by unfold stoV; dsimp only; rw [hl]
    rw [e]; exact ho
  · show e.x.In m.length
    rw [hl]; exact h.ok e he
  · show I.from' + m.length ≤ 4096
    rw [hl]; exact h.small
theorem mark_set {m : List Bool} {i : Nat} (h : i < m.length) : (markM m (i : Int) true).1 = m.set i true := by
  unfold markM
  rw [Int.toNat_natCast]
  split
  · rfl
  · rename_i hn
    have hm : m[i] = true := by
      cases hb : m[i] with
      | true => rfl
      | false => exact absurd ⟨by omega, by omega, by rw [List.getD_eq_getElem?_getD, List.getElem?_eq_getElem h, hb]; rfl⟩ hn
    show m = m.set i true
    rw [← hm, List.set_getElem_self]
theorem idK_same (a b : Nat) : (idK a).sameKey (idK b) = (a == b) := by
  by_cases h : a = b
  · subst h; rw [WideAt.sameKey_self (idK_key a)]; simp
  · rw [show (a == b) = false from by simpa using h]
    cases hs : (idK a).sameKey (idK b) with
    | false => rfl
    | true => exact absurd (WideAt.sameKey_eq hs) (idK_ne h)
theorem key_one {E : List Ent} (hs : E.Pairwise (fun a b => a.key < b.key)) {a b : Ent} (ha : a ∈ E) (hb : b ∈ E) (h : a.key = b.key) : a = b := by
  induction E with
  | nil => cases ha
  | cons y E ih =>
    obtain ⟨h1, h2⟩ := List.pairwise_cons.1 hs
    rcases List.mem_cons.1 ha with ea | ha'
    · rcases List.mem_cons.1 hb with eb | hb'
      · rw [ea, eb]
      · have := h1 b hb'; subst ea; omega
    · rcases List.mem_cons.1 hb with eb | hb'
      · have := h1 a ha'; subst eb; omega
      · exact ih h2 ha' hb'
/-- those that are not to come any more are marked -/
def Marked (m : List Bool) (n : Nat) (E : List Ent) (left : Lit → Bool) : Prop := m.length = n ∧ ∀ i, i < n → (m.getD i true = true ↔ ∃ e ∈ E, left (idK e.key) = false ∧ i ∈ e.x.at')
theorem Marked.next {m : List Bool} {n : Nat} {E : List Ent} {left : Lit → Bool} (h : Marked m n E left) (hs : E.Pairwise (fun a b => a.key < b.key)) {e : Ent} (he : e ∈ E) : Marked (markI m e.x.at') n E (fun z => left z && !z.sameKey (idK e.key)) := by
  refine ⟨by unfold markI; rw [markI_len]; exact h.1, fun i hi => ?_⟩
  unfold markI
  rw [markI_get _ _ _ _ (by rw [h.1]; exact hi)]
  constructor
  · intro h1
    split at h1
    · rename_i h2
      exact ⟨e, he, by simp [idK_same], h2⟩
    · obtain ⟨e', he', h3, h4⟩ := (h.2 i hi).1 h1
      exact ⟨e', he', by simp [h3], h4⟩
  · rintro ⟨e', he', h3, h4⟩
    split
    · rfl
    · rename_i h2
      simp only [idK_same, Bool.and_eq_false_iff, Bool.not_eq_false', beq_iff_eq] at h3
      rcases h3 with h3 | h3
      · exact (h.2 i hi).2 ⟨e', he', h3, h4⟩
      · obtain rfl := key_one hs he' he h3
        exact absurd h4 h2
theorem Marked.all {m : List Bool} {n : Nat} {E : List Ent} {left : Lit → Bool} (h : Marked m n E left) (hl : ∀ k, left k = false) : m = usedI n (E.map Ent.x) := by
  unfold usedI
  refine List.ext_getElem (by simp [h.1]) fun i h1 h2 => ?_
  have hi : i < n := by rw [← h.1]; exact h1
  have := h.2 i hi
  rw [List.getD_eq_getElem?_getD, List.getElem?_eq_getElem h1] at this
  rw [List.getElem_map, List.getElem_range, Bool.eq_iff_iff]
  rw [show (m[i] = true ↔ _) from this, List.any_map, List.any_eq_true]
  constructor
  · rintro ⟨e, he, _, hm⟩; exact ⟨e, he, by simpa using hm⟩
  · rintro ⟨e, he, hm⟩; exact ⟨e, he, hl _, by simpa using hm⟩
theorem Marked.none {n : Nat} {E : List Ent} {left : Lit → Bool} (hl : ∀ e ∈ E, left (idK e.key) = true) : Marked (List.replicate n false) n E left := by
  refine ⟨by simp, fun i hi => ?_⟩
  rw [List.getD_eq_getElem?_getD, List.getElem?_replicate, if_pos hi]
  constructor
  · intro h; cases h
  · rintro ⟨e, he, h1, _⟩; rw [hl e he] at h1; cases h1
theorem ranges_keep {S : List Nat} {w w' : World} {P : Program} {k : TypeId} {R : Value → Option (DataW Unit × List MemPlace)} {b r n : Nat} {D : DataW Unit} {left : Lit → Bool} {cnt : Nat} (h : w.ranges P k R b r n D left cnt) (hc : Chg S w w') (hb : b ∉ S) (hr : r ∉ S) : w'.ranges P k R b r n D left cnt := by
  have h1 := h.owns.lt
  have h2 := h.lt
  obtain ⟨es, clock, since, seen, c0, hb', F, hs, hD, hr', rest⟩ := h
  exact ⟨es, clock, since, seen, c0, (hc.block b h1 hb).trans hb', F, hs, hD, (hc.block r h2 hr).trans hr', rest⟩
end Go.Proofs.YtoapibbbooongaaDoor

/- The walks of layer 8: what is there. -/
namespace Go.Proofs.YtoapibbbooongaaDoor
open Go.RowKit Go.Quad _root_.Quad _root_.Quad.Slab

def OpenTo (w : World) (g : Nat) (r : Option Im × Nat) (e : Ending) (w' : World) : Prop :=
  Below w.heap.size w w' ∧ match r.1 with
  | none => e = .returned (.tuple #[.pointer none, .int .i64 (r.2 : Int)])
  | some I => ∃ c mb fg fd Q E, e = .returned (.tuple #[.pointer (some ⟨c, 0, none⟩), .int .i64 (r.2 : Int)]) ∧ IsSto w' w.heap.size g c mb fg fd Q E I
theorem open_no {w : World} {g n : Nat} {r : Option Im × Nat} (h : r = (none, n)) : OpenTo w g r (.returned (.tuple #[.pointer none, .int .i64 (n : Int)])) w := by
  subst h; exact ⟨Below.refl _ _, rfl⟩

theorem get4_lt (p : List UInt8) (i : Nat) : get4 p i < 4294967296 := get4L_lt _
theorem igetB_ok (s : Sl) (i : Int) : (getB s i).1.Ok := by
  have hz : blkZ.Ok := ⟨by decide, by decide, by decide, by decide⟩
  unfold getB readB
  split
  · exact hz
  · split
    · exact hz
    · split
      · exact hz
      · split
        · exact hz
        · exact ⟨by exact UInt8.toNat_lt _, get4_lt _ _, get4_lt _ _, get4_lt _ _⟩
theorem addI_none {L : List Img} {x : Img} (h : findI L x.job = none) : addI L (some x) = setK Img.job x L := by unfold addI; dsimp only; rw [h]
theorem addI_newer {L : List Img} {x y : Img} (h : findI L x.job = some y) (hv : y.ver < x.ver) : addI L (some x) = setK Img.job x L := by unfold addI; dsimp only; rw [h]; dsimp only; rw [if_pos hv]
theorem addI_older {L : List Img} {x y : Img} (h : findI L x.job = some y) (hv : ¬ y.ver < x.ver) : addI L (some x) = L := by unfold addI; dsimp only; rw [h]; dsimp only; rw [if_neg hv]
/-- so far, behind k places -/
def OlRel (w : World) (g : Nat) (s : Sl) (f n ep c mb fg fd : Nat) (iv : Value) (wr : World) : Prop :=
  ∃ (k : Nat) (Q : Nat → Prop) (E : List Ent), iv = .int .i64 (k : Int) ∧ k ≤ n ∧ IsSto wr w.heap.size g c mb fg fd Q E ⟨s, f, ep, listI (seeG s f) n k, List.replicate n false, false⟩ ∧ Below w.heap.size w wr
/-- so far, those that are not to come any more are marked -/
def MkRel (w : World) (g : Nat) (s : Sl) (f n ep c mb fg fd r : Nat) (Q : Nat → Prop) (E : List Ent) (D : DataW Unit) (wr : World) : Prop :=
  ∃ (left : Lit → Bool) (cnt : Nat) (m : List Bool), wr.ranges Tryd.prog 31 entR mb r (Maps.size D) D left cnt ∧ IsSto wr w.heap.size g c mb fg fd Q E ⟨s, f, ep, E.map Ent.x, m, false⟩ ∧ Marked m n E left ∧ Below w.heap.size w wr
def MjRel (w : World) (g : Nat) (s : Sl) (f _n ep c mb fg fd r : Nat) (Q : Nat → Prop) (E : List Ent) (D : DataW Unit) (left : Lit → Bool) (cnt : Nat) (m : List Bool) (l : List Nat) (jv : Value) (wr : World) : Prop :=
  ∃ j : Nat, jv = .int .i64 (j : Int) ∧ j ≤ l.length ∧ wr.ranges Tryd.prog 31 entR mb r (Maps.size D) D left cnt ∧ IsSto wr w.heap.size g c mb fg fd Q E ⟨s, f, ep, E.map Ent.x, markI m (l.take j), false⟩ ∧ Below w.heap.size w wr
set_option maxRecDepth 100000 in
set_option maxHeartbeats 4000000 in
theorem open_calls (w : World) (B g d : Nat) (wv : Value) (s : Sl) (a b : Int) (ep : Nat) (hS : IsSlab w B g d wv s) (ha : -9223372036854775808 ≤ a ∧ a ≤ 9223372036854775807) (hb : -9223372036854775808 ≤ b ∧ b ≤ 9223372036854775807) (he : ep < 4294967296) (hsm : s.done.length ≤ 4096) (hq : Laid w) :
    Calls Tryd.prog 13 #[.pointer (some ⟨g, 0, none⟩), .int .i64 a, .int .i64 b, .int .u32 (ep : Int)] w (OpenTo w g (openI s a b ep)) := by
  have HS := hid hS
  have HL := hid hq
  have hlen := len_calls w B g d wv s hS
  have hon := hid (on_calls w B g d wv s hS)
  have hsm' : ((s.done.length : Nat) : Int) ≤ 4096 := by omega
  obtain ⟨R0, hR0⟩ : ∃ R0, openI s a b ep = R0 := ⟨_, rfl⟩
  rw [hR0]
  have HR0 := hid hR0
  clear hS hq hR0
  by_cases h1 : a < 0
  · go_enter Tryd.func13, Tryd.ntmps13
    go_wp2_with fail
    go_ret2
    exact open_no (by rw [← HR0.out]; unfold openI; rw [if_pos (.inl h1)])
  by_cases h2 : b ≤ a
  · go_enter Tryd.func13, Tryd.ntmps13
    go_wp2_with fail
    go_ret2
    exact open_no (by rw [← HR0.out]; unfold openI; rw [if_pos (.inr (.inl h2))])
  by_cases h3 : (s.done.length : Int) < b
  · go_enter Tryd.func13, Tryd.ntmps13
    go_wp2_with (go_at_call 44; refine hlen.mono ?_; rintro e w2 ⟨rfl, rfl⟩; dsimp only)
    go_ret2
    exact open_no (by rw [← HR0.out]; unfold openI; rw [if_pos (.inr (.inr h3))])
  cases hoff : s.off with
  | true =>
    rw [hoff] at hon
    go_enter Tryd.func13, Tryd.ntmps13
    go_wp2_with (first | (go_at_call 44; refine hlen.mono ?_; rintro e w2 ⟨rfl, rfl⟩; dsimp only) | (go_at_call 45; refine hon.out.mono ?_; rintro e w2 ⟨rfl, rfl⟩; dsimp only [Bool.not_true]))
    go_ret2
    exact open_no (by rw [← HR0.out]; unfold openI; rw [if_neg (by omega), if_pos hoff])
  | false =>
    rw [hoff] at hon
    have HR1 := hid (show openI s a b ep = _ from by unfold openI; rw [if_neg (by omega), if_neg (by simp [hoff])])
    obtain ⟨f, rfl⟩ : ∃ f : Nat, a = (f : Int) := ⟨a.toNat, by omega⟩
    obtain ⟨n, rfl⟩ : ∃ n : Nat, b = ((f + n : Nat) : Int) := ⟨(b - f).toNat, by omega⟩
    have hn1 : 0 < n := by omega
    have hfn : f + n ≤ s.done.length := by omega
    have hfn' : (f : Int) + (n : Int) ≤ 4096 := by omega
    have HOFF := hid hoff
    clear hoff h1 h2
    go_enter Tryd.func13, Tryd.ntmps13
    go_upto_region 7 with (first | (go_at_call 44; refine hlen.mono ?_; rintro e w2 ⟨rfl, rfl⟩; dsimp only) | (go_at_call 45; refine hon.out.mono ?_; rintro e w2 ⟨rfl, rfl⟩; dsimp only [Bool.not_false]))
    have hmm := @run_makeMap Tryd.prog
    have hnm := hid fun (W : World) (i : Int) (hi : i = (n : Int)) => (show Calls Tryd.prog 46 #[.int .i64 i] W (MapNewTo W n) from by subst hi; exact newmap_calls W (n : Int) (by omega))
    go_upto_region 8 with (first | (go_at_call 46; refine (hnm.out _ _ (by omega)).mono ?_; rintro e w2 ⟨fg, fd, rfl, hmp, hb2, hg2, hd2⟩; have MP := hid hmp; have B2 := hid hb2; have GE := hid (And.intro hg2 hd2); clear hmp hb2 hg2 hd2))
    obtain ⟨w3, hw3⟩ : ∃ w3, w2.alloc (.cells (stoV g w.heap.size fg ⟨s, f, ep, [], List.replicate n false, false⟩).toArray 94) = w3 := ⟨_, rfl⟩
    have hI : IsSto w3 w.heap.size g w2.heap.size w.heap.size fg fd (fun _ => False) [] ⟨s, f, ep, [], List.replicate n false, false⟩ := by
      have b1 := below_alloc w (.map #[] 0)
      have b3 := below_alloc w2 (.cells (stoV g w.heap.size fg ⟨s, f, ep, [], List.replicate n false, false⟩).toArray 94)
      have z1 : (w.alloc (.map #[] 0)).heap.size = w.heap.size + 1 := by simp
      have l1 := MP.out.own.lt
      have l2 := MP.out.row.lt
      have g1 := GE.out
      have g2 := B2.out.size
      have hx := blk_alloc w2 (stoV g w.heap.size fg ⟨s, f, ep, [], List.replicate n false, false⟩) 94
      rw [hw3] at b3 hx
      have z3 : w3.heap.size = w2.heap.size + 1 := by rw [← hw3]; simp
      refine ⟨hx, ⟨.map [], ?_, MapOf.nil _ _⟩, MP.out.below b3, by simp, rfl, List.Pairwise.nil, by simp, fun k hk => hk.elim, ?_, ?_, he, by simpa using Nat.le_trans hfn hsm⟩
      · exact ownsMap_keep (ownsMap_keep (World.ownsMap_made w Tryd.prog 31 entR) (Chg.of_below [] B2.out) (by simp)) (Chg.of_below [] b3) (by simp)
      · intro k hk
        simp only [List.mem_cons, List.not_mem_nil, or_false] at hk
        rcases hk with rfl | rfl | rfl | rfl <;> omega
      · have hne := MP.out.ne
        simp only [List.nodup_cons, List.mem_cons, List.not_mem_nil, or_false, not_or, List.nodup_nil, and_true, not_false_eq_true]
        refine ⟨⟨by omega, by omega, by omega⟩, ⟨by omega, by omega⟩, ?_⟩
        exact hne
    have hb3 : Below w.heap.size w w3 := by
      have b1 := below_alloc w (.map #[] 0)
      have b3 := below_alloc w2 (.cells (stoV g w.heap.size fg ⟨s, f, ep, [], List.replicate n false, false⟩).toArray 94)
      rw [hw3] at b3
      have z1 : (w.alloc (.map #[] 0)).heap.size = w.heap.size + 1 := by simp
      exact (b1.trans (B2.out.mono b1.size)).trans (b3.mono (by have := B2.out.size; omega))
    have hsv : stoV g w.heap.size fg ⟨s, f, ep, [], List.replicate n false, false⟩ = [.pointer (some ⟨g, 0, none⟩), .int .i64 (f : Int), .int .i64 ((f : Int) + (n : Int)), .int .u32 (ep : Int), .map (some w.heap.size), .pointer (some ⟨fg, 0, none⟩), .bool false] := by
      simp [stoV]
    rw [hsv] at hw3
    have I3 := hid hI
    have B3 := hid hb3
    obtain ⟨c, hc⟩ : ∃ c, w2.heap.size = c := ⟨_, rfl⟩
    rw [hw3, hc]
    rw [hc] at I3
    have e56 : (f : Int) + (n : Int) - (f : Int) = (n : Int) := by omega
    go_cut [10, 56, 57] from 22 to 55 (fun v10 v56 v57 w' => v10 = .pointer (some ⟨c, 0, none⟩) ∧ v56 = .int .i64 (n : Int) ∧ v57 = .int .i64 0 ∧ w3 = w')
    case first =>
      go_wp2_with fail
      rw [e56]
      have R : (Value.pointer (some ⟨c, 0, none⟩) = .pointer (some ⟨c, 0, none⟩) ∧ Value.int .i64 (n : Int) = .int .i64 (n : Int) ∧ Value.int .i64 0 = .int .i64 0 ∧ w3 = w3) := ⟨rfl, rfl, rfl, rfl⟩
      go_meet
      first | exact R | ((repeat apply Exists.intro); refine ⟨R, ?_⟩; and_intros <;> rfl)
    obtain ⟨rfl, rfl, rfl, rfl⟩ := hcut
    clear hw3 hsv hI hb3 e56 hmm hon hlen
    go_wp2_with fail
    go_loopw [11, 12, 13, 14, 15, 16, 17, 57] (fun _ _ _ _ _ _ _ iv wr => OlRel w g s f n ep c w.heap.size fg fd iv wr) (fun _ _ _ _ _ _ _ iv _ => n - (intOf iv).toNat)
    case atStart => exact ⟨0, _, [], rfl, Nat.zero_le _, I3.out, B3.out⟩
    case round =>
      obtain ⟨k, Q, E, rfl, hk, hI, hB⟩ := hrel
      have HI := hid hI
      have HB := hid hB
      clear hI hB
      by_cases hlt : k < n
      · have hlt' : (k : Int) < (n : Int) := by omega
        have hkf : (f : Int) + (k : Int) ≤ 4096 := by omega
        obtain ⟨rr, hrr⟩ : ∃ rr, seeG s f k = rr := ⟨_, rfl⟩
        have hG := hid (show Calls Tryd.prog 47 #[.pointer (some ⟨g, 0, none⟩), .int .i64 ((f : Int) + (k : Int))] wr (BGetTo wr rr) from by
          rw [← hrr]
          have := bget_calls wr B g d wv s ((f + k : Nat) : Int) (HS.out.below HB.out) (by omega) (HL.out.below HB.out HL.out.1)
          exact this)
        have HRR := hid hrr
        clear hrr
        obtain ⟨⟨kd, e1, ba, bb, dat⟩, er⟩ := rr
        go_upto_region 12 with (first | (go_at_call 47; refine hG.out.mono ?_; rintro e w4 ⟨a4, n4, p4, rfl, hn4, hO4, hb4⟩; have N4 := hid hn4; have O4 := hid hO4; have B4 := hid hb4; clear hn4 hO4 hb4; dsimp only))
        obtain ⟨q5, hq5⟩ : ∃ q5, w4.heap.size = q5 := ⟨_, rfl⟩
        have b5 := below_alloc w4 (.cells (blkCs ⟨kd, e1, ba, bb, dat⟩ a4 n4 p4).toArray 96)
        have k5 := blk_alloc w4 (blkCs ⟨kd, e1, ba, bb, dat⟩ a4 n4 p4) 96
        rw [hq5] at k5 ⊢
        have B5 := hid (B4.out.trans (b5.mono B4.out.size))
        have O5 := hid (O4.out.bsN |> fun h => bs_keep h (Chg.of_below [] b5) (.inr (by simp)))
        unfold blkCs at B5 k5 O5 b5
        have K5 := hid k5
        have H5 := hid (show q5 + 1 = (w4.alloc (.cells #[.int .u8 (kd : Int), .int .u32 (e1 : Int), .int .u32 (ba : Int), .int .u32 (bb : Int), .slice a4 n4 p4] 96)).heap.size from by simp; omega)
        clear b5 k5
        dsimp only at B5 K5 O5 H5
        generalize (w4.alloc (.cells #[.int .u8 (kd : Int), .int .u32 (e1 : Int), .int .u32 (ba : Int), .int .u32 (bb : Int), .slice a4 n4 p4] 96)) = w5 at B5 K5 O5 H5 ⊢
        have I5 := hid (HI.out.below B5.out)
        have HB5 := hid (HB.out.trans (B5.out.mono HB.out.size))
        have HLi := hid (listI_succ (seeG s f) n k)
        by_cases h0 : er = 0
        case neg =>
          have e0' : ¬ ((er : Int) = 0) := by omega
          have hth : thereI (seeG s f) n k = none := by unfold thereI; rw [HRR.out, if_pos h0]
          have R : OlRel w g s f n ep c w.heap.size fg fd (.int .i64 ((k : Int) + 1)) w5 := ⟨k + 1, Q, E, rfl, hlt, by rw [HLi.out, hth]; exact I5.out, HB5.out⟩
          go_wp2_with fail
          refine ⟨?_, by simp [intOf]; omega⟩
          first | exact R | ((repeat apply Exists.intro); refine ⟨R, ?_⟩; and_intros <;> rfl)
        subst h0
        have hok := hid (show (⟨kd, e1, ba, bb, dat⟩ : BlkD).Ok from by have := igetB_ok s ((f + k : Nat) : Int); rw [show getB s ((f + k : Nat) : Int) = (⟨kd, e1, ba, bb, dat⟩, 0) from HRR.out] at this; exact this)
        have hth := hid (show thereI (seeG s f) n k = imageI (seeG s f) n ⟨kd, e1, ba, bb, dat⟩ k from by unfold thereI; rw [HRR.out]; rfl)
        have hul : (List.replicate n false).length = n := List.length_replicate
        have hC := hid (image_calls w5 B g d wv c w.heap.size fg ⟨s, f, ep, listI (seeG s f) n k, List.replicate n false, false⟩ ⟨kd, e1, ba, bb, dat⟩ a4 n4 p4 k ((HS.out.below HB.out).below B5.out) I5.out.own (by show f + (List.replicate n false).length ≤ 4096; rw [hul]; omega) (by show k < (List.replicate n false).length; rw [hul]; exact hlt) ((HL.out.below HB.out HL.out.1).below B5.out (HL.out.below HB.out HL.out.1).1) O5.out N4.out hok.out)
        have hth2 := hid (show imageI (seeG s f) (List.replicate n false).length ⟨kd, e1, ba, bb, dat⟩ k = thereI (seeG s f) n k from by rw [hul]; exact hth.out.symm)
        obtain ⟨R1, hR1⟩ : ∃ R1, thereI (seeG s f) n k = R1 := ⟨_, rfl⟩
        have hCC : Calls Tryd.prog 48 #[.pointer (some ⟨c, 0, none⟩), .agg #[.int .u8 (kd : Int), .int .u32 (e1 : Int), .int .u32 (ba : Int), .int .u32 (bb : Int), .slice a4 n4 p4], .int .i64 (k : Int)] w5 (ImageTo w5 R1) := by
          have := hC.out
          dsimp only at this
          rw [hth2.out, hR1] at this
          exact this
        have HR1 := hid hR1
        have HCC := hid hCC
        clear hCC hR1 hC hth hth2 hul
        cases R1 with
        | none =>
          go_upto_region 14 with (first | (refine wpList_load_blk (o := ⟨some 72, _, _, _, _, _⟩) 96 (.tmp 12) rfl rfl q5 _ 96 rfl K5.out ⟨_, Tryd.underlying96, rfl⟩ (by kernel_rfl) ?_) | (go_at_call 48; refine HCC.out.mono ?_; rintro e w6 ⟨hb6, rfl⟩; have B6 := hid hb6; clear hb6; unfold zkept keptV; dsimp only))
          obtain ⟨q7, hq7⟩ : ∃ q7, w6.heap.size = q7 := ⟨_, rfl⟩
          have b7 := below_alloc w6 (.cells #[.int .u32 0, .int .u32 0, .int .i64 0, .slice none 0 0, .slice none 0 0] 100)
          have x7 : Blk _ w6.heap.size #[.int .u32 0, .int .u32 0, .int .i64 0, .slice none 0 0, .slice none 0 0].toList 100 := blk_alloc w6 #[.int .u32 0, .int .u32 0, .int .i64 0, .slice none 0 0, .slice none 0 0].toList 100
          rw [hq7] at x7 ⊢
          have B7 := hid (B6.out.trans (b7.mono B6.out.size))
          have X7 := hid x7
          have s7 : q7 ≤ (w6.alloc (.cells #[.int .u32 0, .int .u32 0, .int .i64 0, .slice none 0 0, .slice none 0 0] 100)).heap.size := by rw [← hq7]; exact b7.size
          have B67 := hid b7
          clear x7 b7
          generalize (w6.alloc (.cells #[.int .u32 0, .int .u32 0, .int .i64 0, .slice none 0 0, .slice none 0 0] 100)) = w7 at B7 X7 s7 B67 ⊢
          have I7 := hid (I5.out.below B7.out)
          have HJ := hid (show 0 < 4294967296 from by omega)
          obtain ⟨r, hr⟩ : ∃ r, E.find? (fun e => e.key == 0) = r := ⟨_, rfl⟩
          have HF := hid hr
          clear hr s7
          cases r with
          | none =>
            have hLk : ∀ W : World, W.heap[w.heap.size]? = w7.heap[w.heap.size]? → (Instr.lookup 90 (.map (some w.heap.size)) (.int .u32 0) true).run Tryd.prog W = .ok (.tuple #[.agg #[.int .u32 0, .int .u32 0, .int .i64 0, .slice none 0 0, .slice none 0 0], .bool false]) W := by
              intro W hW
              obtain ⟨D, h1, h2⟩ := I7.out.map
              have := look_run h1 h2 hW HJ.out
              rw [HF.out] at this
              exact this
            have c4 := I7.out.own.get 4 rfl
            have k0 := X7.out.get 0 rfl
            have MKS := hid fun (W : World) (hW : Below w7.heap.size w7 W) => (show (W.cell? ⟨c, 4, none⟩ = some (.map (some w.heap.size)) ∧ W.cell? ⟨q7, 0, none⟩ = some (.int .u32 0) ∧ W.heap[w.heap.size]? = w7.heap[w.heap.size]? ∧ Below w7.heap.size w7 W) from ⟨cell_later hW c4, cell_later hW k0, hW.block _ (I7.out.lt w.heap.size (by simp)).2, hW⟩)
            have SB := hid fun (W : World) (h : (W.cell? ⟨c, 4, none⟩ = some (.map (some w.heap.size)) ∧ W.cell? ⟨q7, 0, none⟩ = some (.int .u32 0) ∧ W.heap[w.heap.size]? = w7.heap[w.heap.size]? ∧ Below w7.heap.size w7 W)) => h.2.2
            go_region_held3 (fun W => (W.cell? ⟨c, 4, none⟩ = some (.map (some w.heap.size)) ∧ W.cell? ⟨q7, 0, none⟩ = some (.int .u32 0) ∧ W.heap[w.heap.size]? = w7.heap[w.heap.size]? ∧ Below w7.heap.size w7 W))
              ((refine MKS.out _ ?_; first | with_reducible exact below_drew _ | with_reducible exact (SB.out _ (by assumption)).2 | with_reducible exact (SB.out _ (by assumption)).2.trans ((below_alloc _ _).mono (SB.out _ (by assumption)).2.size) | with_reducible exact (below_alloc _ _).trans ((below_drew _).mono (below_alloc _ _).size)))
              ((rw [hLk _ (SB.out _ (by assumption)).1]; go_simp))
            all_goals
              rename_i hH; clear hH
              clear hLk c4 k0 MKS SB
              obtain ⟨q8, hq8⟩ : ∃ q8, w7.heap.size = q8 := ⟨_, rfl⟩
              have b8 := below_alloc w7 (.cells #[.int .u32 0, .int .u32 0, .int .i64 0, .slice none 0 0, .slice none 0 0] 100)
              have b9 := b8.trans ((below_drew (w7.alloc (.cells #[.int .u32 0, .int .u32 0, .int .i64 0, .slice none 0 0, .slice none 0 0] 100))).mono b8.size)
              have x8 : Blk _ w7.heap.size #[.int .u32 0, .int .u32 0, .int .i64 0, .slice none 0 0, .slice none 0 0].toList 100 := (blk_alloc w7 #[.int .u32 0, .int .u32 0, .int .i64 0, .slice none 0 0, .slice none 0 0].toList 100).below (below_drew _)
              rw [hq8] at x8 ⊢
              have B8 := hid b9
              have X8 := hid x8
              clear b8 b9 x8
              generalize (w7.alloc (.cells #[.int .u32 0, .int .u32 0, .int .i64 0, .slice none 0 0, .slice none 0 0] 100)).drew = w8 at B8 X8 ⊢
              have I8 := hid (I7.out.below B8.out)
              have HB8 := hid (HB5.out.trans ((B7.out.trans (B8.out.mono B7.out.size)).mono HB5.out.size))
              have R : OlRel w g s f n ep c w.heap.size fg fd (.int .i64 ((k : Int) + 1)) w8 := ⟨k + 1, Q, E, rfl, hlt, by rw [HLi.out, HR1.out]; exact I8.out, HB8.out⟩
              go_wp2_with fail
              refine ⟨?_, by simp [intOf]; omega⟩
              first | exact R | ((repeat apply Exists.intro); refine ⟨R, ?_⟩; and_intros <;> rfl)
          | some e8 =>
            have hLk : ∀ W : World, W.heap[w.heap.size]? = w7.heap[w.heap.size]? → (Instr.lookup 90 (.map (some w.heap.size)) (.int .u32 0) true).run Tryd.prog W = .ok (.tuple #[.agg #[.int .u32 (e8.x.job : Int), .int .u32 (e8.x.ver : Int), .int .i64 e8.x.credit, .slice (some ⟨e8.bb, e8.bo, none⟩) e8.x.blobs.length e8.bc, .slice (some ⟨e8.ab, e8.ao, none⟩) e8.x.at'.length e8.ac], .bool true]) W := by
              intro W hW
              obtain ⟨D, h1, h2⟩ := I7.out.map
              have := look_run h1 h2 hW HJ.out
              rw [HF.out] at this
              exact this
            have c4 := I7.out.own.get 4 rfl
            have k0 := X7.out.get 0 rfl
            have MKS := hid fun (W : World) (hW : Below w7.heap.size w7 W) => (show (W.cell? ⟨c, 4, none⟩ = some (.map (some w.heap.size)) ∧ W.cell? ⟨q7, 0, none⟩ = some (.int .u32 0) ∧ W.heap[w.heap.size]? = w7.heap[w.heap.size]? ∧ Below w7.heap.size w7 W) from ⟨cell_later hW c4, cell_later hW k0, hW.block _ (I7.out.lt w.heap.size (by simp)).2, hW⟩)
            have SB := hid fun (W : World) (h : (W.cell? ⟨c, 4, none⟩ = some (.map (some w.heap.size)) ∧ W.cell? ⟨q7, 0, none⟩ = some (.int .u32 0) ∧ W.heap[w.heap.size]? = w7.heap[w.heap.size]? ∧ Below w7.heap.size w7 W)) => h.2.2
            go_region_held3 (fun W => (W.cell? ⟨c, 4, none⟩ = some (.map (some w.heap.size)) ∧ W.cell? ⟨q7, 0, none⟩ = some (.int .u32 0) ∧ W.heap[w.heap.size]? = w7.heap[w.heap.size]? ∧ Below w7.heap.size w7 W))
              ((refine MKS.out _ ?_; first | with_reducible exact below_drew _ | with_reducible exact (SB.out _ (by assumption)).2 | with_reducible exact (SB.out _ (by assumption)).2.trans ((below_alloc _ _).mono (SB.out _ (by assumption)).2.size) | with_reducible exact (below_alloc _ _).trans ((below_drew _).mono (below_alloc _ _).size)))
              ((rw [hLk _ (SB.out _ (by assumption)).1]; go_simp))
            all_goals
              rename_i hH; clear hH
              clear hLk c4 k0 MKS SB
              obtain ⟨q8, hq8⟩ : ∃ q8, w7.heap.size = q8 := ⟨_, rfl⟩
              have b8 := below_alloc w7 (.cells #[.int .u32 (e8.x.job : Int), .int .u32 (e8.x.ver : Int), .int .i64 e8.x.credit, .slice (some ⟨e8.bb, e8.bo, none⟩) e8.x.blobs.length e8.bc, .slice (some ⟨e8.ab, e8.ao, none⟩) e8.x.at'.length e8.ac] 100)
              have b9 := b8.trans ((below_drew (w7.alloc (.cells #[.int .u32 (e8.x.job : Int), .int .u32 (e8.x.ver : Int), .int .i64 e8.x.credit, .slice (some ⟨e8.bb, e8.bo, none⟩) e8.x.blobs.length e8.bc, .slice (some ⟨e8.ab, e8.ao, none⟩) e8.x.at'.length e8.ac] 100))).mono b8.size)
              have x8 : Blk _ w7.heap.size #[.int .u32 (e8.x.job : Int), .int .u32 (e8.x.ver : Int), .int .i64 e8.x.credit, .slice (some ⟨e8.bb, e8.bo, none⟩) e8.x.blobs.length e8.bc, .slice (some ⟨e8.ab, e8.ao, none⟩) e8.x.at'.length e8.ac].toList 100 := (blk_alloc w7 #[.int .u32 (e8.x.job : Int), .int .u32 (e8.x.ver : Int), .int .i64 e8.x.credit, .slice (some ⟨e8.bb, e8.bo, none⟩) e8.x.blobs.length e8.bc, .slice (some ⟨e8.ab, e8.ao, none⟩) e8.x.at'.length e8.ac].toList 100).below (below_drew _)
              rw [hq8] at x8 ⊢
              have B8 := hid b9
              have X8 := hid x8
              clear b8 b9 x8
              generalize (w7.alloc (.cells #[.int .u32 (e8.x.job : Int), .int .u32 (e8.x.ver : Int), .int .i64 e8.x.credit, .slice (some ⟨e8.bb, e8.bo, none⟩) e8.x.blobs.length e8.bc, .slice (some ⟨e8.ab, e8.ao, none⟩) e8.x.at'.length e8.ac] 100)).drew = w8 at B8 X8 ⊢
              have I8 := hid (I7.out.below B8.out)
              have HB8 := hid (HB5.out.trans ((B7.out.trans (B8.out.mono B7.out.size)).mono HB5.out.size))
              have R : OlRel w g s f n ep c w.heap.size fg fd (.int .i64 ((k : Int) + 1)) w8 := ⟨k + 1, Q, E, rfl, hlt, by rw [HLi.out, HR1.out]; exact I8.out, HB8.out⟩
              go_wp2_with fail
              refine ⟨?_, by simp [intOf]; omega⟩
              first | exact R | ((repeat apply Exists.intro); refine ⟨R, ?_⟩; and_intros <;> rfl)
        | some x =>
          go_upto_region 14 with (first | (refine wpList_load_blk (o := ⟨some 72, _, _, _, _, _⟩) 96 (.tmp 12) rfl rfl q5 _ 96 rfl K5.out ⟨_, Tryd.underlying96, rfl⟩ (by kernel_rfl) ?_) | (go_at_call 48; refine HCC.out.mono ?_; rintro e w6 ⟨hb6, en, hex, rfl, hat⟩; have B6 := hid hb6; have HEX := hid hex; have HAT := hid hat; clear hb6 hex hat; rw [show en.V.toArray = #[.int .u32 (en.x.job : Int), .int .u32 (en.x.ver : Int), .int .i64 en.x.credit, .slice (some ⟨en.bb, en.bo, none⟩) en.x.blobs.length en.bc, .slice (some ⟨en.ab, en.ao, none⟩) en.x.at'.length en.ac] from rfl]))
          obtain ⟨q7, hq7⟩ : ∃ q7, w6.heap.size = q7 := ⟨_, rfl⟩
          have b7 := below_alloc w6 (.cells #[.int .u32 (en.x.job : Int), .int .u32 (en.x.ver : Int), .int .i64 en.x.credit, .slice (some ⟨en.bb, en.bo, none⟩) en.x.blobs.length en.bc, .slice (some ⟨en.ab, en.ao, none⟩) en.x.at'.length en.ac] 100)
          have x7 : Blk _ w6.heap.size #[.int .u32 (en.x.job : Int), .int .u32 (en.x.ver : Int), .int .i64 en.x.credit, .slice (some ⟨en.bb, en.bo, none⟩) en.x.blobs.length en.bc, .slice (some ⟨en.ab, en.ao, none⟩) en.x.at'.length en.ac].toList 100 := blk_alloc w6 #[.int .u32 (en.x.job : Int), .int .u32 (en.x.ver : Int), .int .i64 en.x.credit, .slice (some ⟨en.bb, en.bo, none⟩) en.x.blobs.length en.bc, .slice (some ⟨en.ab, en.ao, none⟩) en.x.at'.length en.ac].toList 100
          rw [hq7] at x7 ⊢
          have B7 := hid (B6.out.trans (b7.mono B6.out.size))
          have X7 := hid x7
          have s7 : q7 ≤ (w6.alloc (.cells #[.int .u32 (en.x.job : Int), .int .u32 (en.x.ver : Int), .int .i64 en.x.credit, .slice (some ⟨en.bb, en.bo, none⟩) en.x.blobs.length en.bc, .slice (some ⟨en.ab, en.ao, none⟩) en.x.at'.length en.ac] 100)).heap.size := by rw [← hq7]; exact b7.size
          have B67 := hid b7
          clear x7 b7
          generalize (w6.alloc (.cells #[.int .u32 (en.x.job : Int), .int .u32 (en.x.ver : Int), .int .i64 en.x.credit, .slice (some ⟨en.bb, en.bo, none⟩) en.x.blobs.length en.bc, .slice (some ⟨en.ab, en.ao, none⟩) en.x.at'.length en.ac] 100)) = w7 at B7 X7 s7 B67 ⊢
          have I7 := hid (I5.out.below B7.out)
          have hin := there_in HR1.out hlt (by rw [HRR.out]; exact hok.out)
          rw [← HEX.out] at hin HR1
          have HIN := hid (show en.x.In (List.replicate n false).length from by rw [List.length_replicate]; exact hin)
          have HJ := hid hin.job
          have hfd := I5.out.find en.x.job
          obtain ⟨r, hr⟩ : ∃ r, E.find? (fun e => e.key == en.x.job) = r := ⟨_, rfl⟩
          rw [hr] at hfd
          have HFD := hid hfd
          have HF := hid hr
          clear hr s7 hfd hin
          cases r with
          | none =>
            have hLk : ∀ W : World, W.heap[w.heap.size]? = w7.heap[w.heap.size]? → (Instr.lookup 90 (.map (some w.heap.size)) (.int .u32 (en.x.job : Int)) true).run Tryd.prog W = .ok (.tuple #[.agg #[.int .u32 0, .int .u32 0, .int .i64 0, .slice none 0 0, .slice none 0 0], .bool false]) W := by
              intro W hW
              obtain ⟨D, h1, h2⟩ := I7.out.map
              have := look_run h1 h2 hW HJ.out
              rw [HF.out] at this
              exact this
            have c4 := I7.out.own.get 4 rfl
            have k0 := X7.out.get 0 rfl
            have MKS := hid fun (W : World) (hW : Below w7.heap.size w7 W) => (show (W.cell? ⟨c, 4, none⟩ = some (.map (some w.heap.size)) ∧ W.cell? ⟨q7, 0, none⟩ = some (.int .u32 (en.x.job : Int)) ∧ W.heap[w.heap.size]? = w7.heap[w.heap.size]? ∧ Below w7.heap.size w7 W) from ⟨cell_later hW c4, cell_later hW k0, hW.block _ (I7.out.lt w.heap.size (by simp)).2, hW⟩)
            have SB := hid fun (W : World) (h : (W.cell? ⟨c, 4, none⟩ = some (.map (some w.heap.size)) ∧ W.cell? ⟨q7, 0, none⟩ = some (.int .u32 (en.x.job : Int)) ∧ W.heap[w.heap.size]? = w7.heap[w.heap.size]? ∧ Below w7.heap.size w7 W)) => h.2.2
            go_region_held3 (fun W => (W.cell? ⟨c, 4, none⟩ = some (.map (some w.heap.size)) ∧ W.cell? ⟨q7, 0, none⟩ = some (.int .u32 (en.x.job : Int)) ∧ W.heap[w.heap.size]? = w7.heap[w.heap.size]? ∧ Below w7.heap.size w7 W))
              ((refine MKS.out _ ?_; first | with_reducible exact below_drew _ | with_reducible exact (SB.out _ (by assumption)).2 | with_reducible exact (SB.out _ (by assumption)).2.trans ((below_alloc _ _).mono (SB.out _ (by assumption)).2.size) | with_reducible exact (below_alloc _ _).trans ((below_drew _).mono (below_alloc _ _).size)))
              ((rw [hLk _ (SB.out _ (by assumption)).1]; go_simp))
            all_goals
              rename_i hH; clear hH
              clear hLk c4 k0 MKS SB
              obtain ⟨q8, hq8⟩ : ∃ q8, w7.heap.size = q8 := ⟨_, rfl⟩
              have b8 := below_alloc w7 (.cells #[.int .u32 0, .int .u32 0, .int .i64 0, .slice none 0 0, .slice none 0 0] 100)
              have b9 := b8.trans ((below_drew (w7.alloc (.cells #[.int .u32 0, .int .u32 0, .int .i64 0, .slice none 0 0, .slice none 0 0] 100))).mono b8.size)
              have x8 : Blk _ w7.heap.size #[.int .u32 0, .int .u32 0, .int .i64 0, .slice none 0 0, .slice none 0 0].toList 100 := (blk_alloc w7 #[.int .u32 0, .int .u32 0, .int .i64 0, .slice none 0 0, .slice none 0 0].toList 100).below (below_drew _)
              rw [hq8] at x8 ⊢
              have B8 := hid b9
              have X8 := hid x8
              clear b8 b9 x8
              generalize (w7.alloc (.cells #[.int .u32 0, .int .u32 0, .int .i64 0, .slice none 0 0, .slice none 0 0] 100)).drew = w8 at B8 X8 ⊢
              have I8 := hid (I7.out.below B8.out)
              have HB8 := hid (HB5.out.trans ((B7.out.trans (B8.out.mono B7.out.size)).mono HB5.out.size))
              have k0 := (X7.out.below B8.out).get 0 rfl
              have k1 := (X7.out.below B8.out).get 1 rfl
              have k2 := (X7.out.below B8.out).get 2 rfl
              have k3 := (X7.out.below B8.out).get 3 rfl
              have k4 := (X7.out.below B8.out).get 4 rfl
              have c4 := I8.out.own.get 4 rfl
              obtain ⟨D, hD, hM⟩ := I8.out.map
              have HD := hid hD
              have HM := hid hM
              have HNN := hid (show Maps.size D < maxLen from by rw [hM.size]; have := I8.out.len; unfold maxLen; omega)
              clear hD hM
              go_upto_region 16 with fail
              go_still_tail 8, (by kernel_rfl)
              change wpList _ _ _ _ _ w8.drew
              have bd := below_drew w8
              have I9 := hid (I8.out.below bd)
              have HD9 := hid (ownsMap_keep HD.out (Chg.of_below [] bd) (by simp))
              have HB9 := hid (HB8.out.trans (bd.mono HB8.out.size))
              have AT9 := hid ((((HAT.out.keep (Chg.of_below [] B67.out) (by simp) (fun _ h => h)).keep (Chg.of_below [] B8.out) (by simp) (fun _ h => h))).keep (Chg.of_below [] bd) (by simp) (fun _ h => h))
              have S9 := hid (show w6.heap.size ≤ w8.drew.heap.size from Nat.le_trans (Nat.le_trans B67.out.size B8.out.size) bd.size)
              clear k0 k1 k2 k3 k4 c4 bd
              generalize w8.drew = w9 at I9 HD9 HB9 AT9 S9 ⊢
              go_wp2_with (at_mapUpdate; go_must (refine wpList_mapUpdate_in _ rfl _ _ _ 90 rfl 31 100 keyed32 Tryd.underlying90 entR w.heap.size _ D rfl HD9.out HNN.out (.int .u32 (en.x.job : Int)) (.agg #[.int .u32 (en.x.job : Int), .int .u32 (en.x.ver : Int), .int .i64 en.x.credit, .slice (some ⟨en.bb, en.bo, none⟩) en.x.blobs.length en.bc, .slice (some ⟨en.ab, en.ao, none⟩) en.x.at'.length en.ac]) (idK en.x.job) rfl rfl (keyOf32 HJ.out) en.dat [] (entR_mk en) ?_; intro wa hown9 hturn9; have HO := hid hown9; have HT := hid hturn9; clear hown9 hturn9))
              have R : OlRel w g s f n ep c w.heap.size fg fd (.int .i64 ((k : Int) + 1)) wa := by
                refine ⟨k + 1, fun j => Q j ∨ (w5.heap.size ≤ j ∧ j < w6.heap.size), setK Ent.key en E, rfl, hlt, ?_, HB9.out.trans ((chg_grown HT.out.grown).below HB9.out.size (by simp))⟩
                have := I9.out.put (en := en) (chg_grown HT.out.grown) ⟨_, owns_tight HO.out, HM.out.set I9.out.sorted en⟩ AT9.out (fun j hj => ⟨Nat.le_trans HB5.out.size hj.1, Nat.lt_of_lt_of_le hj.2 S9.out, fun hm => by have := (I5.out.lt j hm).2; have := hj.1; omega⟩) HIN.out
                rw [HLi.out, HR1.out, addI_none HFD.out]
                exact this
              refine ⟨?_, by simp [intOf]; omega⟩
              first | exact R | ((repeat apply Exists.intro); refine ⟨R, ?_⟩; and_intros <;> rfl)
          | some e8 =>
            have hLk : ∀ W : World, W.heap[w.heap.size]? = w7.heap[w.heap.size]? → (Instr.lookup 90 (.map (some w.heap.size)) (.int .u32 (en.x.job : Int)) true).run Tryd.prog W = .ok (.tuple #[.agg #[.int .u32 (e8.x.job : Int), .int .u32 (e8.x.ver : Int), .int .i64 e8.x.credit, .slice (some ⟨e8.bb, e8.bo, none⟩) e8.x.blobs.length e8.bc, .slice (some ⟨e8.ab, e8.ao, none⟩) e8.x.at'.length e8.ac], .bool true]) W := by
              intro W hW
              obtain ⟨D, h1, h2⟩ := I7.out.map
              have := look_run h1 h2 hW HJ.out
              rw [HF.out] at this
              exact this
            have c4 := I7.out.own.get 4 rfl
            have k0 := X7.out.get 0 rfl
            have MKS := hid fun (W : World) (hW : Below w7.heap.size w7 W) => (show (W.cell? ⟨c, 4, none⟩ = some (.map (some w.heap.size)) ∧ W.cell? ⟨q7, 0, none⟩ = some (.int .u32 (en.x.job : Int)) ∧ W.heap[w.heap.size]? = w7.heap[w.heap.size]? ∧ Below w7.heap.size w7 W) from ⟨cell_later hW c4, cell_later hW k0, hW.block _ (I7.out.lt w.heap.size (by simp)).2, hW⟩)
            have SB := hid fun (W : World) (h : (W.cell? ⟨c, 4, none⟩ = some (.map (some w.heap.size)) ∧ W.cell? ⟨q7, 0, none⟩ = some (.int .u32 (en.x.job : Int)) ∧ W.heap[w.heap.size]? = w7.heap[w.heap.size]? ∧ Below w7.heap.size w7 W)) => h.2.2
            go_region_held3 (fun W => (W.cell? ⟨c, 4, none⟩ = some (.map (some w.heap.size)) ∧ W.cell? ⟨q7, 0, none⟩ = some (.int .u32 (en.x.job : Int)) ∧ W.heap[w.heap.size]? = w7.heap[w.heap.size]? ∧ Below w7.heap.size w7 W))
              ((refine MKS.out _ ?_; first | with_reducible exact below_drew _ | with_reducible exact (SB.out _ (by assumption)).2 | with_reducible exact (SB.out _ (by assumption)).2.trans ((below_alloc _ _).mono (SB.out _ (by assumption)).2.size) | with_reducible exact (below_alloc _ _).trans ((below_drew _).mono (below_alloc _ _).size)))
              ((rw [hLk _ (SB.out _ (by assumption)).1]; go_simp))
            all_goals
              rename_i hH; clear hH
              clear hLk c4 k0 MKS SB
              obtain ⟨q8, hq8⟩ : ∃ q8, w7.heap.size = q8 := ⟨_, rfl⟩
              have b8 := below_alloc w7 (.cells #[.int .u32 (e8.x.job : Int), .int .u32 (e8.x.ver : Int), .int .i64 e8.x.credit, .slice (some ⟨e8.bb, e8.bo, none⟩) e8.x.blobs.length e8.bc, .slice (some ⟨e8.ab, e8.ao, none⟩) e8.x.at'.length e8.ac] 100)
              have b9 := b8.trans ((below_drew (w7.alloc (.cells #[.int .u32 (e8.x.job : Int), .int .u32 (e8.x.ver : Int), .int .i64 e8.x.credit, .slice (some ⟨e8.bb, e8.bo, none⟩) e8.x.blobs.length e8.bc, .slice (some ⟨e8.ab, e8.ao, none⟩) e8.x.at'.length e8.ac] 100))).mono b8.size)
              have x8 : Blk _ w7.heap.size #[.int .u32 (e8.x.job : Int), .int .u32 (e8.x.ver : Int), .int .i64 e8.x.credit, .slice (some ⟨e8.bb, e8.bo, none⟩) e8.x.blobs.length e8.bc, .slice (some ⟨e8.ab, e8.ao, none⟩) e8.x.at'.length e8.ac].toList 100 := (blk_alloc w7 #[.int .u32 (e8.x.job : Int), .int .u32 (e8.x.ver : Int), .int .i64 e8.x.credit, .slice (some ⟨e8.bb, e8.bo, none⟩) e8.x.blobs.length e8.bc, .slice (some ⟨e8.ab, e8.ao, none⟩) e8.x.at'.length e8.ac].toList 100).below (below_drew _)
              rw [hq8] at x8 ⊢
              have B8 := hid b9
              have X8 := hid x8
              clear b8 b9 x8
              generalize (w7.alloc (.cells #[.int .u32 (e8.x.job : Int), .int .u32 (e8.x.ver : Int), .int .i64 e8.x.credit, .slice (some ⟨e8.bb, e8.bo, none⟩) e8.x.blobs.length e8.bc, .slice (some ⟨e8.ab, e8.ao, none⟩) e8.x.at'.length e8.ac] 100)).drew = w8 at B8 X8 ⊢
              have I8 := hid (I7.out.below B8.out)
              have HB8 := hid (HB5.out.trans ((B7.out.trans (B8.out.mono B7.out.size)).mono HB5.out.size))
              have r1 := X8.out.get 1 rfl
              have n1 := (X7.out.below B8.out).get 1 rfl
              by_cases hv : e8.x.ver < en.x.ver
              · have hv' : (e8.x.ver : Int) < (en.x.ver : Int) := by omega
                have k0 := (X7.out.below B8.out).get 0 rfl
                have k1 := (X7.out.below B8.out).get 1 rfl
                have k2 := (X7.out.below B8.out).get 2 rfl
                have k3 := (X7.out.below B8.out).get 3 rfl
                have k4 := (X7.out.below B8.out).get 4 rfl
                have c4 := I8.out.own.get 4 rfl
                obtain ⟨D, hD, hM⟩ := I8.out.map
                have HD := hid hD
                have HM := hid hM
                have HNN := hid (show Maps.size D < maxLen from by rw [hM.size]; have := I8.out.len; unfold maxLen; omega)
                clear hD hM
                go_upto_region 16 with fail
                go_still_tail 8, (by kernel_rfl)
                change wpList _ _ _ _ _ w8.drew
                have bd := below_drew w8
                have I9 := hid (I8.out.below bd)
                have HD9 := hid (ownsMap_keep HD.out (Chg.of_below [] bd) (by simp))
                have HB9 := hid (HB8.out.trans (bd.mono HB8.out.size))
                have AT9 := hid ((((HAT.out.keep (Chg.of_below [] B67.out) (by simp) (fun _ h => h)).keep (Chg.of_below [] B8.out) (by simp) (fun _ h => h))).keep (Chg.of_below [] bd) (by simp) (fun _ h => h))
                have S9 := hid (show w6.heap.size ≤ w8.drew.heap.size from Nat.le_trans (Nat.le_trans B67.out.size B8.out.size) bd.size)
                clear k0 k1 k2 k3 k4 c4 bd
                generalize w8.drew = w9 at I9 HD9 HB9 AT9 S9 ⊢
                go_wp2_with (at_mapUpdate; go_must (refine wpList_mapUpdate_in _ rfl _ _ _ 90 rfl 31 100 keyed32 Tryd.underlying90 entR w.heap.size _ D rfl HD9.out HNN.out (.int .u32 (en.x.job : Int)) (.agg #[.int .u32 (en.x.job : Int), .int .u32 (en.x.ver : Int), .int .i64 en.x.credit, .slice (some ⟨en.bb, en.bo, none⟩) en.x.blobs.length en.bc, .slice (some ⟨en.ab, en.ao, none⟩) en.x.at'.length en.ac]) (idK en.x.job) rfl rfl (keyOf32 HJ.out) en.dat [] (entR_mk en) ?_; intro wa hown9 hturn9; have HO := hid hown9; have HT := hid hturn9; clear hown9 hturn9))
                have R : OlRel w g s f n ep c w.heap.size fg fd (.int .i64 ((k : Int) + 1)) wa := by
                  refine ⟨k + 1, fun j => Q j ∨ (w5.heap.size ≤ j ∧ j < w6.heap.size), setK Ent.key en E, rfl, hlt, ?_, HB9.out.trans ((chg_grown HT.out.grown).below HB9.out.size (by simp))⟩
                  have := I9.out.put (en := en) (chg_grown HT.out.grown) ⟨_, owns_tight HO.out, HM.out.set I9.out.sorted en⟩ AT9.out (fun j hj => ⟨Nat.le_trans HB5.out.size hj.1, Nat.lt_of_lt_of_le hj.2 S9.out, fun hm => by have := (I5.out.lt j hm).2; have := hj.1; omega⟩) HIN.out
                  rw [HLi.out, HR1.out, addI_newer HFD.out hv]
                  exact this
                refine ⟨?_, by simp [intOf]; omega⟩
                first | exact R | ((repeat apply Exists.intro); refine ⟨R, ?_⟩; and_intros <;> rfl)
              · have hv' : ¬ ((e8.x.ver : Int) < (en.x.ver : Int)) := by omega
                have R : OlRel w g s f n ep c w.heap.size fg fd (.int .i64 ((k : Int) + 1)) w8 := ⟨k + 1, Q, E, rfl, hlt, by rw [HLi.out, HR1.out, addI_older HFD.out hv]; exact I8.out, HB8.out⟩
                go_wp2_with fail
                refine ⟨?_, by simp [intOf]; omega⟩
                first | exact R | ((repeat apply Exists.intro); refine ⟨R, ?_⟩; and_intros <;> rfl)
      · have hlt' : ¬ ((k : Int) < (n : Int)) := by omega
        obtain rfl : k = n := by omega
        clear hlt hk
        have hEL := hid HI.out.L
        have c4 := HI.out.own.get 4 rfl
        obtain ⟨D, hD, hM⟩ := HI.out.map
        have HD := hid hD
        have HM := hid hM
        clear hD hM
        obtain ⟨r, hr⟩ : ∃ r, wr.heap.size = r := ⟨_, rfl⟩
        go_wp2_with (first | (at_range; go_must (refine wpList_range_own _ rfl _ 90 rfl 31 100 keyed32 Tryd.underlying90 entR w.heap.size _ D rfl HD.out ?_; intro w0 hrg0 hg0 hs0; have RG := hid hrg0; have G0 := hid (chg_grown hg0); clear hrg0 hg0)) | fail)
        have LT := hid HI.out.lt
        have AP := hid HI.out.apart
        have NQ := hid (show ¬ Q r from fun hq => by have := (HI.out.inQ r hq).2.1; omega)
        have NR := hid (show ∀ k ∈ [c, w.heap.size, fg, fd], k ≠ r from fun k hk e => by have := (HI.out.lt k hk).2; omega)
        have MK0 := hid (show MkRel w g s f k ep c w.heap.size fg fd r Q E D w0 from by
          refine ⟨Maps.has D, Maps.size D, List.replicate k false, by rw [← hr]; exact RG.out, ?_, Marked.none fun e he => ?_, HB.out.trans ((show Below wr.heap.size wr w0 from G0.out.below (Nat.le_refl _) (by simp)).mono HB.out.size)⟩
          · have := HI.out.below (show Below wr.heap.size wr w0 from G0.out.below (Nat.le_refl _) (by simp))
            rw [← hEL.out] at this
            exact this
          · rw [HM.out.has]; exact any_key.2 ⟨e, he, rfl⟩)
        clear c4
        go_loopw [19, 21] (fun _ _ wr' => MkRel w g s f k ep c w.heap.size fg fd r Q E D wr') (fun _ _ wr' => wr'.rangeLeft w.heap.size r)
        case atStart => exact MK0.out
        case round =>
          obtain ⟨left, cnt, m, hrg, hI, hMk, hB⟩ := hrel
          have RGk := hid hrg
          have Ik := hid hI
          have MKk := hid hMk
          have Bk := hid hB
          clear hrg hI hMk hB
          go_upto_region 19 with fail
          refine wp_region_lit ?_
          refine wpList_next_st _ rfl (.tmp 115) rfl w.heap.size r _ D left cnt E (by rw [← hr]; rfl) RGk.out HM.out ?_ ?_
          · intro hl
            have hm := hid (MKk.out.all hl)
            go_wp2_with fail
            go_ret2
            have hR : R0 = (some ⟨s, f, ep, listI (seeG s f) k k, usedI k (listI (seeG s f) k k), false⟩, 0) := by
              rw [← HR0.out, HR1.out, Int.toNat_natCast, show (((f + k : Nat) : Int) - (f : Int)).toNat = k from by omega]
            rw [hR]
            refine ⟨Bk.out, c, w.heap.size, fg, fd, Q, E, rfl, ?_⟩
            have := Ik.out
            rw [hm.out, hEL.out] at this
            exact this
          · intro e he w5 cnt' hle hrg5 hlt5 hc5 hen
            rw [show e.V.toArray = #[.int .u32 (e.x.job : Int), .int .u32 (e.x.ver : Int), .int .i64 e.x.credit, .slice (some ⟨e.bb, e.bo, none⟩) e.x.blobs.length e.bc, .slice (some ⟨e.ab, e.ao, none⟩) e.x.at'.length e.ac] from rfl] at hen ⊢
            have I5 := hid (Ik.out.keep hc5 (fun j hj => by rw [List.mem_singleton] at hj; subst hj; exact ⟨fun hm => NR.out _ hm rfl, NQ.out⟩))
            have RG5 := hid hrg5
            have B5 := hid (Bk.out.trans (hc5.below Bk.out.size (fun j hj => by rw [List.mem_singleton] at hj; subst hj; have := HB.out.size; omega)))
            have HE := hid he
            have HLT := hid hlt5
            have AT := hid (I5.out.ok e he)
            have MKn := hid (MKk.out.next Ik.out.sorted he)
            have ML := hid MKk.out.1
            clear hrg5 hlt5 hc5 hle he
            go_frame
            go_upto_region 21 with fail
            have b6 := below_alloc w5 (.cells #[.int .u32 (e.x.job : Int), .int .u32 (e.x.ver : Int), .int .i64 e.x.credit, .slice (some ⟨e.bb, e.bo, none⟩) e.x.blobs.length e.bc, .slice (some ⟨e.ab, e.ao, none⟩) e.x.at'.length e.ac] 100)
            have x6 : Blk _ w5.heap.size #[.int .u32 (e.x.job : Int), .int .u32 (e.x.ver : Int), .int .i64 e.x.credit, .slice (some ⟨e.bb, e.bo, none⟩) e.x.blobs.length e.bc, .slice (some ⟨e.ab, e.ao, none⟩) e.x.at'.length e.ac].toList 100 := blk_alloc w5 #[.int .u32 (e.x.job : Int), .int .u32 (e.x.ver : Int), .int .i64 e.x.credit, .slice (some ⟨e.bb, e.bo, none⟩) e.x.blobs.length e.bc, .slice (some ⟨e.ab, e.ao, none⟩) e.x.at'.length e.ac].toList 100
            have RG6 := hid (RG5.out.alloc (.cells #[.int .u32 (e.x.job : Int), .int .u32 (e.x.ver : Int), .int .i64 e.x.credit, .slice (some ⟨e.bb, e.bo, none⟩) e.x.blobs.length e.bc, .slice (some ⟨e.ab, e.ao, none⟩) e.x.at'.length e.ac] 100))
            have x4 := x6.get 4 rfl
            have I6 := hid (I5.out.below b6)
            have B6 := hid (B5.out.trans (b6.mono B5.out.size))
            clear x6 b6 hen
            generalize (w5.alloc (.cells #[.int .u32 (e.x.job : Int), .int .u32 (e.x.ver : Int), .int .i64 e.x.credit, .slice (some ⟨e.bb, e.bo, none⟩) e.x.blobs.length e.bc, .slice (some ⟨e.ab, e.ao, none⟩) e.x.at'.length e.ac] 100)) = w6 at RG6 I6 B6 x4 ⊢
            have hal : (e.x.at'.length : Int) ≤ 17 := by have := AT.out.at'; have := AT.out.few; omega
            go_wp2_with fail
            go_loopw [21, 123] (fun _ jv wr' => MjRel w g s f k ep c w.heap.size fg fd r Q E D (fun z => left z && !z.sameKey (idK e.key)) cnt' m e.x.at' jv wr') (fun _ jv _ => e.x.at'.length - (intOf jv).toNat)
            case atStart => exact ⟨0, rfl, Nat.zero_le _, RG6.out, I6.out, B6.out⟩
            case round =>
              obtain ⟨j, rfl, hj, hrg, hI, hB⟩ := hrel
              have RGj := hid hrg
              have Ij := hid hI
              have Bj := hid hB
              clear hrg hI hB x4
              have hml : (markI m (e.x.at'.take j)).length = k := by unfold markI; rw [markI_len]; exact ML.out
              have HML := hid hml
              clear hml
              by_cases hlt : j < e.x.at'.length
              · have hlt' : (j : Int) < (e.x.at'.length : Int) := by omega
                obtain ⟨ab', ao', hae, _, hcell⟩ := (Ij.out.lists e HE.out).2.at (a := some ⟨e.ab, e.ao, none⟩) (n := e.x.at'.length) (c := e.ac) hlt
                cases hae
                have c5 := Ij.out.own.get 5 rfl
                have hin := AT.out.inn (e.x.at'.getD j 0) (by rw [getD_in hlt]; exact List.getElem_mem hlt)
                obtain ⟨pj, hpj⟩ : ∃ pj, e.x.at'.getD j 0 = pj := ⟨_, rfl⟩
                rw [hpj] at hcell hin
                have HIN := hid (show pj < k from by have := ML.out; simpa [ML.out] using hin)
                have hM := hid (mark_calls _ fg fd _ (pj : Int) Ij.out.free)
                have HPJ := hid hpj
                clear hpj hin
                go_wp2_with (go_at_call 49; refine hM.out.mono ?_; rintro e9 w9 ⟨rfl, hp9, hc9⟩; have P9 := hid hp9; have C9 := hid hc9; clear hp9 hc9)
                have hm2 : markI m (e.x.at'.take (j + 1)) = (markM (markI m (e.x.at'.take j)) (pj : Int) true).1 := by
                  rw [mark_set (by rw [HML.out]; exact HIN.out), List.take_succ_eq_append_getElem hlt, ← getD_in (d := 0) hlt, HPJ.out]
                  unfold markI
                  rw [List.foldl_append]
                  rfl
                have R : MjRel w g s f k ep c w.heap.size fg fd r Q E D (fun z => left z && !z.sameKey (idK e.key)) cnt' m e.x.at' (.int .i64 ((j : Int) + 1)) w9 := by
                  have hmb : w.heap.size ∉ [fg, fd] := fun hm => by
                    have := AP.out
                    simp only [List.nodup_cons, List.mem_cons, List.not_mem_nil, or_false, not_or] at this hm
                    rcases hm with h | h
                    · exact this.2.1.1 h
                    · exact this.2.1.2 h
                  refine ⟨j + 1, rfl, hlt, ranges_keep RGj.out C9.out hmb (fun hm => NR.out r (by simp only [List.mem_cons, List.not_mem_nil, or_false] at hm ⊢; exact .inr (.inr hm)) rfl), ?_, Bj.out.trans (C9.out.below Bj.out.size (fun q hq => (LT.out q (by simp only [List.mem_cons, List.not_mem_nil, or_false] at hq ⊢; exact .inr (.inr hq))).1))⟩
                  have h9 := Ij.out.marks (m := markI m (e.x.at'.take (j + 1))) C9.out (by rw [hm2]; exact P9.out) (by
                    show (markI m (e.x.at'.take (j + 1))).length = (markI m (e.x.at'.take j)).length
                    unfold markI; rw [markI_len, markI_len])
                  exact h9
                refine ⟨?_, by simp [intOf]; omega⟩
                first | exact R | ((repeat apply Exists.intro); refine ⟨R, ?_⟩; and_intros <;> rfl)
              · have hlt' : ¬ ((j : Int) < (e.x.at'.length : Int)) := by omega
                obtain rfl : j = e.x.at'.length := by omega
                have R : MkRel w g s f k ep c w.heap.size fg fd r Q E D wr := by
                  refine ⟨_, cnt', markI m e.x.at', RGj.out, ?_, MKn.out, Bj.out⟩
                  have := Ij.out
                  rw [List.take_length] at this
                  exact this
                have hms : wr.rangeLeft w.heap.size r < cnt := by rw [RGj.out.left_eq]; exact HLT.out
                rw [← RGk.out.left_eq] at hms
                have HMS := hid hms
                clear hms
                go_wp2_with fail
                refine ⟨?_, HMS.out⟩
                first | exact R | ((repeat apply Exists.intro); refine ⟨R, ?_⟩; and_intros <;> rfl)
end Go.Proofs.YtoapibbbooongaaDoor
