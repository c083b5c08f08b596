/- A job's image looked up in a store's map. -/
import Derived.Test.YtoapibbbooongaaDoorImgE
import Derived.Test.YtoapibbbooongaaDoorImgR
import Derived.Maps.RangeWalk
namespace Go.Proofs.YtoapibbbooongaaDoor
open Go.RowKit Go.Quad _root_.Quad _root_.Quad.Slab

theorem keyed32 : Maps.Keyed Tryd.prog 31 := Maps.int_keyed Tryd.underlying31
theorem keyOf32 {id : Nat} (h : id < 4294967296) : keyOf Tryd.prog 31 (.int .u32 (id : Int)) = some (idK id) := Maps.keyOf_int_mk Tryd.underlying31 (u32_wf h)
theorem zeroKept (w : World) : (zeroValue 100).run Tryd.prog w = .ok (.agg zkept.toArray) w := by kernel_rfl
theorem entR_none {v : Value} {ps : List MemPlace} (h : entR v = some (.agg [], ps)) : v = .agg zkept.toArray := by
  unfold entR at h
  split at h
  · rename_i xs
    split at h
    · cases h
    · rename_i hx
      have : xs = zkept.toArray := by rw [← Array.toArray_toList (xs := xs), hx]; rfl
      rw [this]
    · cases h
  · cases h
def lookV (r : Option Ent) : List Value := match r with | none => zkept | some e => e.V
theorem look_run {w W : World} {mb n : Nat} {D : DataW Unit} {E : List Ent} (h : w.ownsMap Tryd.prog 31 entR mb n D) (hM : MapOf Ent.key Ent.dat D E) (hb : W.heap[mb]? = w.heap[mb]?) {j : Nat} (hj : j < 4294967296) :
    (Instr.lookup 90 (.map (some mb)) (.int .u32 (j : Int)) true).run Tryd.prog W = .ok (.tuple #[.agg (lookV (E.find? (fun e => e.key == j))).toArray, .bool (E.find? (fun e => e.key == j)).isSome]) W := by
  have hW : W.ownsMap Tryd.prog 31 entR mb n D := by
    obtain ⟨es, clock, hh, F, hn, e⟩ := h
    exact ⟨es, clock, hb.trans hh, F, hn, e⟩
  obtain ⟨v, ps, hrun, hv⟩ := hW.look_ok keyed32 Tryd.underlying90 (zeroKept W) entR_zero (keyOf32 hj)
  rw [hrun]
  cases hf : E.find? (fun e => e.key == j) with
  | none =>
    obtain ⟨h1, h2⟩ := hM.missed hf
    rw [h2] at hv
    rw [h1, entR_none hv]
    rfl
  | some e =>
    obtain ⟨h1, h2, _⟩ := hM.found hf
    rw [h2] at hv
    rw [h1, entR_inv hv]
    rfl
theorem sorted_len {α : Type} {key : α → Nat} {N : Nat} : ∀ {L : List α} {lo : Nat}, L.Pairwise (fun a b => key a < key b) → (∀ x ∈ L, lo ≤ key x ∧ key x < N) → lo ≤ N → L.length + lo ≤ N
  | [], lo, _, _, h => by simpa using h
  | y :: L, lo, hp, h, _ => by
    obtain ⟨h1, h2⟩ := List.pairwise_cons.1 hp
    have hy := h y (List.mem_cons_self ..)
    have := sorted_len (L := L) (lo := key y + 1) h2 (fun x hx => ⟨h1 x hx, (h x (List.mem_cons_of_mem _ hx)).2⟩) hy.2
    rw [List.length_cons]
    omega
theorem IsSto.len {w : World} {B g c mb fg fd : Nat} {Q : Nat → Prop} {E : List Ent} {I : Im} (h : IsSto w B g c mb fg fd Q E I) : E.length ≤ 4294967296 := by
  have := sorted_len (lo := 0) h.sorted (fun x hx => ⟨Nat.zero_le _, (h.ok x hx).job⟩) (Nat.zero_le _)
  simpa using this
theorem IsSto.find {w : World} {B g c mb fg fd : Nat} {Q : Nat → Prop} {E : List Ent} {I : Im} (h : IsSto w B g c mb fg fd Q E I) (j : Nat) : findI I.L j = (E.find? (fun e => e.key == j)).map Ent.x := by
  unfold findI
  rw [← h.L, List.find?_map]
  rfl
/-- an image is laid in the map -/
theorem IsSto.put {w w' : World} {B g c mb fg fd : Nat} {Q Q0 : Nat → Prop} {E : List Ent} {I : Im} {en : Ent} (h : IsSto w B g c mb fg fd Q E I) (hc : Chg [mb] w w') (hown : ∃ D, w'.ownsMap Tryd.prog 31 entR mb (Maps.size D) D ∧ MapOf Ent.key Ent.dat D (setK Ent.key en E))
    (hat : en.At w Q0) (hQ0 : ∀ k, Q0 k → B ≤ k ∧ k < w.heap.size ∧ k ∉ [c, mb, fg, fd]) (hin : en.x.In I.used.length) : IsSto w' B g c mb fg fd (fun k => Q k ∨ Q0 k) (setK Ent.key en E) { I with L := setK Img.job en.x I.L } := by
  have nd := h.apart
  simp only [List.nodup_cons, List.mem_cons, List.not_mem_nil, or_false, not_or] at nd
  have nQ : ∀ k ∈ [mb], ¬ Q k := fun k hk hq => (h.inQ k hq).2.2 (by simp only [List.mem_singleton] at hk; subst hk; simp)
  have nQ0 : ∀ k ∈ [mb], ¬ Q0 k := fun k hk hq => (hQ0 k hq).2.2 (by simp only [List.mem_singleton] at hk; subst hk; simp)
  refine ⟨h.own.keep hc (by simp only [List.mem_singleton]; exact nd.1.1), hown, h.free.keep hc (by simp only [List.mem_singleton]; exact fun e => nd.2.1.1 e.symm) (by simp only [List.mem_singleton]; exact fun e => nd.2.1.2 e.symm), fun e he => ?_, ?_, setK_sorted _ _ h.sorted, fun e he => ?_, fun k hk => ?_, fun k hk => ⟨(h.lt k hk).1, Nat.lt_of_lt_of_le (h.lt k hk).2 hc.size⟩, h.apart, h.epoch, h.small⟩
  · rcases (setK_mem Ent.key en h.sorted e).1 he with rfl | ⟨h1, _⟩
    · exact hat.keep hc nQ0 (fun _ h => .inr h)
    · exact (h.lists e h1).keep hc nQ (fun _ h => .inl h)
  · rw [setK_map Ent.x Ent.key Img.job (fun _ => rfl) en h.sorted, h.L]
  · rcases (setK_mem Ent.key en h.sorted e).1 he with rfl | ⟨h1, _⟩
    · exact hin
    · exact h.ok e h1
  · rcases hk with hk | hk
    · exact ⟨(h.inQ k hk).1, Nat.lt_of_lt_of_le (h.inQ k hk).2.1 hc.size, (h.inQ k hk).2.2⟩
    · exact ⟨(hQ0 k hk).1, Nat.lt_of_lt_of_le (hQ0 k hk).2.1 hc.size, (hQ0 k hk).2.2⟩
theorem there_in {G : Nat → BlkD × Nat} {n a : Nat} {x : Img} (h : thereI G n a = some x) (ha : a < n) (hok : (G a).1.Ok) : x.In n := by
  have hp := there_places h ha
  obtain ⟨h0, h1, l, h2, rfl⟩ := there_some.1 h
  obtain ⟨_, k2, k3, k4, k5, k6, k7⟩ := headOk_iff.1 h1
  have hl := (blobsI_some.1 h2).1
  exact ⟨hok.a, hok.b, ⟨by show (0 : Int) ≤ ((creditOf _ : Nat) : Int); omega, by show ((creditOf _ : Nat) : Int) ≤ 10000; omega⟩, ⟨by show 1 ≤ l.length; omega, by show l.length ≤ 16; omega⟩, by simp [hl], fun p hp' => (hp.2 p hp').1⟩
theorem wpList_next_st {ops : Array Oper} {rest : List Oper} {o : Oper} {a : Act} {Qq : Exit → Act → World → Prop} (w : World) (hg : o.guard = none) (it : Operand) (hop : o.op = Op.next it false) (mb r n : Nat) (D : DataW Unit) (left : Lit → Bool) (cnt : Nat) (E : List Ent)
    (hit : a.eval it = .pointer (some ⟨r, 0, none⟩)) (h : w.ranges Tryd.prog 31 entR mb r n D left cnt) (hM : MapOf Ent.key Ent.dat D E)
    (hDone : (∀ kl, left kl = false) → wpList Tryd.prog ops Qq rest (a.put o.dst (.tuple #[.bool false])) w)
    (hMore : ∀ e ∈ E, ∀ (w' : World) (cnt' : Nat), left (idK e.key) = true → w'.ranges Tryd.prog 31 entR mb r n D (fun z => left z && !z.sameKey (idK e.key)) cnt' → cnt' < cnt → Chg [r] w w' →
      (Instr.entry (.pointer (some ⟨r, 0, none⟩))).run Tryd.prog w' = .ok (.tuple #[.int .u32 (e.key : Int), .agg e.V.toArray]) w' → wpList Tryd.prog ops Qq rest (a.put o.dst (.tuple #[.bool true, .int .u32 (e.key : Int), .agg e.V.toArray])) w') :
    wpList Tryd.prog ops Qq (o :: rest) a w := by
  refine wpList_next_ranges w hg it hop 31 keyed32 entR (fun x : Int => .int .u32 x) (fun v : Value => v) (fun key kl hk => ?_) (fun v y _ => ⟨v, rfl⟩) mb r n D left cnt hit h (fun _ hl => hDone hl) ?_
  · obtain ⟨x, e, _⟩ := Maps.keyOf_int_inv Tryd.underlying31 hk
    exact ⟨x, e⟩
  · intro x c kl y w' cnt' hk hl hR hat hrg hlt hgr hsz hen
    obtain ⟨x', e1, e2, hwf⟩ := Maps.keyOf_int_inv Tryd.underlying31 hk
    cases e1
    have hx0 : 0 ≤ x := by
      simp only [Lit.wf, IntKind.min, IntKind.max, IntKind.signed, IntKind.bits, Bool.and_eq_true, decide_eq_true_eq] at hwf
      have := hwf.1
      simpa using this
    obtain ⟨id, rfl⟩ : ∃ id : Nat, x = (id : Int) := ⟨x.toNat, by omega⟩
    have hhas : Maps.has D (idK id) = true := by
      cases hh : Maps.has D (idK id) with
      | true => rfl
      | false =>
        have h1 := Maps.atKey_of_not_has hh (.agg [])
        have h2 := Maps.atKey_of_not_has hh (.map [])
        rw [show idK id = kl from e2.symm] at h1 h2
        rw [hat] at h1 h2
        rw [h1] at h2
        cases h2
    rw [hM.has] at hhas
    obtain ⟨e, he, rfl⟩ := any_key.1 hhas
    have hd := hM.at' e he (.agg [])
    rw [show idK e.key = kl from e2.symm, hat] at hd
    obtain rfl : c = .agg e.V.toArray := entR_inv (ps := y.2) (by rw [hR, ← hd])
    rw [show kl = idK e.key from e2] at hl hrg
    exact hMore e he w' cnt' hl hrg hlt (chg_grown hgr) hen
/-- marks are changed -/
theorem IsSto.marks {w w' : World} {B g c mb fg fd : Nat} {Q : Nat → Prop} {E : List Ent} {I : Im} (h : IsSto w B g c mb fg fd Q E I) {m : List Bool} (hc : Chg [fg, fd] w w') (hm : IsMp w' fg fd m) (hl : m.length = I.used.length) : IsSto w' B g c mb fg fd Q E { I with used := m } := by
  have nd := h.apart
  simp only [List.nodup_cons, List.mem_cons, List.not_mem_nil, or_false, not_or] at nd
  have no : ∀ k ∈ [c, mb], k ∉ [fg, fd] := by
    intro k hk hm
    simp only [List.mem_cons, List.not_mem_nil, or_false] at hk hm
    rcases hk with rfl | rfl
    · rcases hm with h | h
      · exact nd.1.2.1 h
      · exact nd.1.2.2 h
    · rcases hm with h | h
      · exact nd.2.1.1 h
      · exact nd.2.1.2 h
  have nQ : ∀ k ∈ [fg, fd], ¬ Q k := fun k hk hq => (h.inQ k hq).2.2 (by
    simp only [List.mem_cons, List.not_mem_nil, or_false] at hk
    rcases hk with rfl | rfl <;> simp)
  obtain ⟨D, h1, h2⟩ := h.map
  have ho := h.own.keep hc (no c (by simp))
  refine ⟨?_, ⟨D, ownsMap_keep h1 hc (no mb (by simp)), h2⟩, hm, fun e he => (h.lists e he).keep hc nQ (fun _ h => h), h.L, h.sorted, fun e he => ?_, fun k hk => ⟨(h.inQ k hk).1, Nat.lt_of_lt_of_le (h.inQ k hk).2.1 hc.size, (h.inQ k hk).2.2⟩, fun k hk => ⟨(h.lt k hk).1, Nat.lt_of_lt_of_le (h.lt k hk).2 hc.size⟩, h.apart, h.epoch, ?_⟩
  · have e : stoV g mb fg { I with used := m } = stoV g mb fg I := by unfold stoV; dsimp only; rw [hl]
    rw [e]; exact ho
  · show e.x.In m.length
    rw [hl]; exact h.ok e he
  · show I.from' + m.length ≤ 4096
    rw [hl]; exact h.small
theorem mark_set {m : List Bool} {i : Nat} (h : i < m.length) : (markM m (i : Int) true).1 = m.set i true := by
  unfold markM
  rw [Int.toNat_natCast]
  split
  · rfl
  · rename_i hn
    have hm : m[i] = true := by
      cases hb : m[i] with
      | true => rfl
      | false => exact absurd ⟨by omega, by omega, by rw [List.getD_eq_getElem?_getD, List.getElem?_eq_getElem h, hb]; rfl⟩ hn
    show m = m.set i true
    rw [← hm, List.set_getElem_self]
theorem idK_same (a b : Nat) : (idK a).sameKey (idK b) = (a == b) := by
  by_cases h : a = b
  · subst h; rw [WideAt.sameKey_self (idK_key a)]; simp
  · rw [show (a == b) = false from by simpa using h]
    cases hs : (idK a).sameKey (idK b) with
    | false => rfl
    | true => exact absurd (WideAt.sameKey_eq hs) (idK_ne h)
theorem key_one {E : List Ent} (hs : E.Pairwise (fun a b => a.key < b.key)) {a b : Ent} (ha : a ∈ E) (hb : b ∈ E) (h : a.key = b.key) : a = b := by
  induction E with
  | nil => cases ha
  | cons y E ih =>
    obtain ⟨h1, h2⟩ := List.pairwise_cons.1 hs
    rcases List.mem_cons.1 ha with ea | ha'
    · rcases List.mem_cons.1 hb with eb | hb'
      · rw [ea, eb]
      · have := h1 b hb'; subst ea; omega
    · rcases List.mem_cons.1 hb with eb | hb'
      · have := h1 a ha'; subst eb; omega
      · exact ih h2 ha' hb'
/-- those that are not to come any more are marked -/
def Marked (m : List Bool) (n : Nat) (E : List Ent) (left : Lit → Bool) : Prop := m.length = n ∧ ∀ i, i < n → (m.getD i true = true ↔ ∃ e ∈ E, left (idK e.key) = false ∧ i ∈ e.x.at')
theorem Marked.next {m : List Bool} {n : Nat} {E : List Ent} {left : Lit → Bool} (h : Marked m n E left) (hs : E.Pairwise (fun a b => a.key < b.key)) {e : Ent} (he : e ∈ E) : Marked (markI m e.x.at') n E (fun z => left z && !z.sameKey (idK e.key)) := by
  refine ⟨by unfold markI; rw [markI_len]; exact h.1, fun i hi => ?_⟩
  unfold markI
  rw [markI_get _ _ _ _ (by rw [h.1]; exact hi)]
  constructor
  · intro h1
    split at h1
    · rename_i h2
      exact ⟨e, he, by simp [idK_same], h2⟩
    · obtain ⟨e', he', h3, h4⟩ := (h.2 i hi).1 h1
      exact ⟨e', he', by simp [h3], h4⟩
  · rintro ⟨e', he', h3, h4⟩
    split
    · rfl
    · rename_i h2
      simp only [idK_same, Bool.and_eq_false_iff, Bool.not_eq_false', beq_iff_eq] at h3
      rcases h3 with h3 | h3
      · exact (h.2 i hi).2 ⟨e', he', h3, h4⟩
      · obtain rfl := key_one hs he' he h3
        exact absurd h4 h2
theorem Marked.all {m : List Bool} {n : Nat} {E : List Ent} {left : Lit → Bool} (h : Marked m n E left) (hl : ∀ k, left k = false) : m = usedI n (E.map Ent.x) := by
  unfold usedI
  refine List.ext_getElem (by simp [h.1]) fun i h1 h2 => ?_
  have hi : i < n := by rw [← h.1]; exact h1
  have := h.2 i hi
  rw [List.getD_eq_getElem?_getD, List.getElem?_eq_getElem h1] at this
  rw [List.getElem_map, List.getElem_range, Bool.eq_iff_iff]
  rw [show (m[i] = true ↔ _) from this, List.any_map, List.any_eq_true]
  constructor
  · rintro ⟨e, he, _, hm⟩; exact ⟨e, he, by simpa using hm⟩
  · rintro ⟨e, he, hm⟩; exact ⟨e, he, hl _, by simpa using hm⟩
theorem Marked.none {n : Nat} {E : List Ent} {left : Lit → Bool} (hl : ∀ e ∈ E, left (idK e.key) = true) : Marked (List.replicate n false) n E left := by
  refine ⟨by simp, fun i hi => ?_⟩
  rw [List.getD_eq_getElem?_getD, List.getElem?_replicate, if_pos hi]
  constructor
  · intro h; cases h
  · rintro ⟨e, he, h1, _⟩; rw [hl e he] at h1; cases h1
theorem ranges_keep {S : List Nat} {w w' : World} {P : Program} {k : TypeId} {R : Value → Option (DataW Unit × List MemPlace)} {b r n : Nat} {D : DataW Unit} {left : Lit → Bool} {cnt : Nat} (h : w.ranges P k R b r n D left cnt) (hc : Chg S w w') (hb : b ∉ S) (hr : r ∉ S) : w'.ranges P k R b r n D left cnt := by
  have h1 := h.owns.lt
  have h2 := h.lt
  obtain ⟨es, clock, since, seen, c0, hb', F, hs, hD, hr', rest⟩ := h
  exact ⟨es, clock, since, seen, c0, (hc.block b h1 hb).trans hb', F, hs, hD, (hc.block r h2 hr).trans hr', rest⟩
end Go.Proofs.YtoapibbbooongaaDoor
