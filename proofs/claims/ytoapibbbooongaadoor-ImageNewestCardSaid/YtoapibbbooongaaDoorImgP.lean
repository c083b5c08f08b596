/- Plain: what is put is there behind the next opening. -/
import Derived.Test.YtoapibbbooongaaDoorImgM
namespace Go.Proofs.YtoapibbbooongaaDoor
open Go.RowKit Go.Quad _root_.Quad _root_.Quad.Slab

theorem getD_l {α : Type} {a b : List α} {i : Nat} {d : α} (h : i < a.length) : (a ++ b).getD i d = a.getD i d := by rw [List.getD_eq_getElem?_getD, List.getElem?_append_left h, ← List.getD_eq_getElem?_getD]
theorem getD_r {α : Type} {a b : List α} {i : Nat} {d : α} (h : a.length ≤ i) : (a ++ b).getD i d = b.getD (i - a.length) d := by rw [List.getD_eq_getElem?_getD, List.getElem?_append_right h, ← List.getD_eq_getElem?_getD]
theorem getD_in {α : Type} {a : List α} {i : Nat} {d : α} (h : i < a.length) : a.getD i d = a[i] := by rw [List.getD_eq_getElem?_getD, List.getElem?_eq_getElem h]; rfl
/-! blobs, one by one -/
theorem blobsI_some {G : Nat → BlkD × Nat} {n : Nat} {h : BlkD} : ∀ {k : Nat} {l : List (List UInt8)}, blobsI G n h k = some l ↔ l.length = k ∧ ∀ j, j < k → blobI G n h (placeOf h.data j) j = some (l.getD j [])
  | 0, l => by
    unfold blobsI
    constructor
    · intro e; cases e; exact ⟨rfl, fun j hj => by omega⟩
    · rintro ⟨e, _⟩; rw [List.length_eq_zero_iff.1 e]
  | k + 1, l => by
    unfold blobsI
    constructor
    · intro e
      cases h1 : blobsI G n h k with
      | none => rw [h1] at e; cases e
      | some l' =>
        rw [h1] at e
        cases h2 : blobI G n h (placeOf h.data k) k with
        | none => rw [h2] at e; cases e
        | some b =>
          rw [h2] at e
          simp only [Option.bind_some, Option.map_some, Option.some.injEq] at e
          obtain ⟨h3, h4⟩ := blobsI_some.1 h1
          subst e
          refine ⟨by simp [h3], fun j hj => ?_⟩
          rcases Nat.lt_or_ge j k with h5 | h5
          · rw [h4 j h5, getD_l (by omega)]
          · obtain rfl : j = k := by omega
            rw [h2, getD_r (by omega), h3, Nat.sub_self]; rfl
    · rintro ⟨h1, h2⟩
      have h3 : blobsI G n h k = some (l.take k) := blobsI_some.2 ⟨by rw [List.length_take]; omega, fun j hj => by
        rw [h2 j (by omega), List.getD_eq_getElem?_getD, List.getD_eq_getElem?_getD, List.getElem?_take_of_lt hj]⟩
      rw [h3, h2 k (by omega)]
      simp only [Option.bind_some, Option.map_some, Option.some.injEq]
      rw [getD_in (by omega), ← List.take_succ_eq_append_getElem (by omega), List.take_of_length_le (by omega)]
theorem blobsI_congr {G G' : Nat → BlkD × Nat} {n : Nat} {h : BlkD} : ∀ {k : Nat}, (∀ j, j < k → blobI G' n h (placeOf h.data j) j = blobI G n h (placeOf h.data j) j) → blobsI G' n h k = blobsI G n h k
  | 0, _ => rfl
  | k + 1, e => by
    unfold blobsI
    rw [blobsI_congr fun j hj => e j (by omega), e k (by omega)]
theorem headOk_iff {h : BlkD} : headOk h = true ↔ h.kind = 6 ∧ h.a ≠ 0 ∧ 5 ≤ h.data.length ∧ creditOf h.data ≤ 10000 ∧ 1 ≤ countOf h.data ∧ countOf h.data ≤ 16 ∧ h.data.length = 5 + 2 * countOf h.data := by
  unfold headOk
  simp only [Bool.and_eq_true, decide_eq_true_eq]
theorem there_some {G : Nat → BlkD × Nat} {n a : Nat} {x : Img} : thereI G n a = some x ↔ (G a).2 = 0 ∧ headOk (G a).1 = true ∧ ∃ l, blobsI G n (G a).1 (countOf (G a).1.data) = some l ∧ x = ⟨(G a).1.a, (G a).1.b, (creditOf (G a).1.data : Int), l, (List.range (countOf (G a).1.data)).map (placeOf (G a).1.data) ++ [a]⟩ := by
  unfold thereI imageI
  by_cases h0 : (G a).2 = 0
  · rw [if_neg (by simpa using h0)]
    by_cases h1 : headOk (G a).1 = true
    · rw [if_pos h1]
      cases h2 : blobsI G n (G a).1 (countOf (G a).1.data) with
      | none => simp
      | some l =>
        simp only [Option.map_some, Option.some.injEq, h0, h1, true_and, exists_eq_left']
        exact eq_comm
    · rw [if_neg h1]
      constructor
      · intro e; cases e
      · rintro ⟨_, e, _⟩; exact absurd e h1
  · rw [if_pos h0]
    constructor
    · intro e; cases e
    · rintro ⟨e, _⟩; exact absurd e h0
theorem there_kind {G : Nat → BlkD × Nat} {n a : Nat} {x : Img} (h : thereI G n a = some x) : (G a).2 = 0 ∧ (G a).1.kind = 6 ∧ x.job = (G a).1.a ∧ x.ver = (G a).1.b := by
  obtain ⟨h0, h1, l, _, rfl⟩ := there_some.1 h
  exact ⟨h0, (headOk_iff.1 h1).1, rfl, rfl⟩
/-- each of its places but the last holds a blob of it -/
theorem there_places {G : Nat → BlkD × Nat} {n a : Nat} {x : Img} (h : thereI G n a = some x) (ha : a < n) : a ∈ x.at' ∧ ∀ p ∈ x.at', p < n ∧ (p = a ∨ ((G p).2 = 0 ∧ (G p).1.kind = 5 ∧ (G p).1.a = x.job ∧ (G p).1.b = x.ver)) := by
  obtain ⟨h0, h1, l, h2, rfl⟩ := there_some.1 h
  refine ⟨by simp, fun p hp => ?_⟩
  rcases List.mem_append.1 hp with hp | hp
  · obtain ⟨j, hj, rfl⟩ := List.mem_map.1 hp
    have hj := List.mem_range.1 hj
    have h3 := (blobsI_some.1 h2).2 j hj
    unfold blobI at h3
    split at h3
    · cases h3
    · rename_i h4
      split at h3
      · rename_i h5
        unfold blobOk at h5
        simp only [Bool.and_eq_true, decide_eq_true_eq] at h5
        exact ⟨by omega, .inr ⟨h5.1, h5.2.1, h5.2.2.2.1, h5.2.2.2.2.1⟩⟩
      · cases h3
  · rw [List.mem_singleton] at hp
    subst hp
    exact ⟨ha, .inl rfl⟩
/-- what is elsewhere doesn't matter -/
theorem there_congr {G G' : Nat → BlkD × Nat} {n a : Nat} {x : Img} (h : thereI G n a = some x) (ha : a < n) (e : ∀ p ∈ x.at', G' p = G p) : thereI G' n a = some x := by
  have hpl := there_places h ha
  obtain ⟨h0, h1, l, h2, rfl⟩ := there_some.1 h
  have ea : G' a = G a := e a hpl.1
  refine there_some.2 ⟨by rw [ea]; exact h0, by rw [ea]; exact h1, l, ?_, by rw [ea]⟩
  rw [ea, ← h2]
  refine blobsI_congr fun j hj => ?_
  have : G' (placeOf (G a).1.data j) = G (placeOf (G a).1.data j) := e _ (List.mem_append_left _ (List.mem_map.2 ⟨j, List.mem_range.2 hj, rfl⟩))
  unfold blobI
  rw [this]

/-! a head's bytes -/
theorem flat2_get : ∀ (l : List Nat) (j : Nat), j < l.length → ((l.flatMap fun i => [UInt8.ofNat i, UInt8.ofNat (i / 256)]).getD (2 * j) 0 = UInt8.ofNat (l.getD j 0) ∧ (l.flatMap fun i => [UInt8.ofNat i, UInt8.ofNat (i / 256)]).getD (2 * j + 1) 0 = UInt8.ofNat (l.getD j 0 / 256))
  | [], j, h => by simp at h
  | x :: l, 0, _ => ⟨rfl, rfl⟩
  | x :: l, j + 1, h => by
    have := flat2_get l j (by simpa using h)
    rw [List.flatMap_cons, show 2 * (j + 1) = (2 * j) + 1 + 1 from by omega]
    exact this
theorem flat2_len : ∀ (l : List Nat), (l.flatMap fun i => [UInt8.ofNat i, UInt8.ofNat (i / 256)]).length = 2 * l.length
  | [] => rfl
  | x :: l => by rw [List.flatMap_cons, List.length_append, flat2_len l, List.length_cons]; show 2 + 2 * l.length = 2 * (l.length + 1); omega
theorem byte2 {n : Nat} (h : n < 65536) : (UInt8.ofNat n).toNat + 256 * (UInt8.ofNat (n / 256)).toNat = n := by
  simp only [UInt8.toNat_ofNat']
  omega
structure Img.Ok (x : Img) : Prop where
  job : 0 < x.job ∧ x.job < 4294967296
  ver : x.ver < 4294967296
  credit : 0 ≤ x.credit ∧ x.credit ≤ 10000
  few : 1 ≤ x.blobs.length ∧ x.blobs.length ≤ 16
  small : ∀ b ∈ x.blobs, b.length ≤ 103
  at' : x.at'.length = x.blobs.length + 1
  nodup : x.at'.Nodup
  wide : ∀ p ∈ x.at', p < 65536
theorem headD_len {x : Img} (h : x.Ok) : (headD x x.blobs.length).length = 5 + 2 * x.blobs.length := by
  unfold headD
  rw [List.length_append, flat2_len, List.length_take, h.at', Nat.min_eq_left (by omega)]
  rfl
theorem headD_count {x : Img} (h : x.Ok) : countOf (headD x x.blobs.length) = x.blobs.length := by
  show (UInt8.ofNat x.blobs.length).toNat = _
  have := h.few.2
  simp only [UInt8.toNat_ofNat']
  omega
theorem headD_credit {x : Img} (h : x.Ok) : (creditOf (headD x x.blobs.length) : Int) = x.credit := by
  have h1 := h.credit
  have h2 : creditOf (headD x x.blobs.length) = (UInt8.ofNat x.credit.toNat).toNat + 256 * (UInt8.ofNat (x.credit.toNat / 256)).toNat := by
    show (UInt8.ofNat x.credit.toNat).toNat + 256 * (UInt8.ofNat (x.credit.toNat / 256)).toNat + 65536 * (0 : UInt8).toNat + 16777216 * (0 : UInt8).toNat = _
    rfl
  rw [h2, byte2 (by omega)]
  omega
theorem headD_place {x : Img} (h : x.Ok) {j : Nat} (hj : j < x.blobs.length) : placeOf (headD x x.blobs.length) j = x.at'.getD j 0 := by
  have hl : j < (x.at'.take x.blobs.length).length := by rw [List.length_take, h.at']; omega
  have h1 := flat2_get (x.at'.take x.blobs.length) j hl
  have e : (x.at'.take x.blobs.length).getD j 0 = x.at'.getD j 0 := by rw [List.getD_eq_getElem?_getD, List.getD_eq_getElem?_getD, List.getElem?_take_of_lt hj]
  have hw : x.at'.getD j 0 < 65536 := by
    have hj' : j < x.at'.length := by rw [h.at']; omega
    rw [List.getD_eq_getElem?_getD, List.getElem?_eq_getElem hj']
    exact h.wide _ (List.getElem_mem hj')
  unfold placeOf
  have e1 : ∀ m, (headD x x.blobs.length).getD (5 + m) 0 = ((x.at'.take x.blobs.length).flatMap fun i => [UInt8.ofNat i, UInt8.ofNat (i / 256)]).getD m 0 := by
    intro m
    unfold headD
    rw [getD_r (by show 5 ≤ 5 + m; omega)]
    show _ = _
    congr 1
    show 5 + m - 5 = m
    omega
  rw [e1 (2 * j), show 5 + 2 * j + 1 = 5 + (2 * j + 1) from by omega, e1 (2 * j + 1), h1.1, h1.2, e, byte2 hw]

/-- the places behind a put -/
structure Wrote (G G' : Nat → BlkD × Nat) (e n : Nat) (x : Img) : Prop where
  blob : ∀ j, j < x.blobs.length → G' (x.at'.getD j 0) = (blobB e x j, 0)
  head : G' (x.at'.getD x.blobs.length 0) = (headB' e x, 0)
  other : ∀ p, p < n → p ∉ x.at' → G' p = G p
  inn : ∀ p ∈ x.at', p < n
theorem at_get {x : Img} (h : x.Ok) {p : Nat} (hp : p ∈ x.at') : ∃ j, j ≤ x.blobs.length ∧ x.at'.getD j 0 = p := by
  obtain ⟨j, hj, rfl⟩ := List.getElem_of_mem hp
  exact ⟨j, by rw [h.at'] at hj; omega, by rw [List.getD_eq_getElem?_getD, List.getElem?_eq_getElem hj]; rfl⟩
theorem at_mem {x : Img} (h : x.Ok) {j : Nat} (hj : j ≤ x.blobs.length) : x.at'.getD j 0 ∈ x.at' := by
  have hj' : j < x.at'.length := by rw [h.at']; omega
  rw [List.getD_eq_getElem?_getD, List.getElem?_eq_getElem hj']
  exact List.getElem_mem hj'
theorem at_list {x : Img} (h : x.Ok) : (List.range x.blobs.length).map (fun j => x.at'.getD j 0) ++ [x.at'.getD x.blobs.length 0] = x.at' := by
  have e : (List.range (x.blobs.length + 1)).map (fun j => x.at'.getD j 0) = x.at' := by
    refine List.ext_getElem (by simp [h.at']) fun i h1 h2 => ?_
    simp only [List.getElem_map, List.getElem_range]
    rw [List.getD_eq_getElem?_getD, List.getElem?_eq_getElem h2]
    rfl
  rw [List.range_succ, List.map_append] at e
  exact e
theorem Wrote.there {G G' : Nat → BlkD × Nat} {e n : Nat} {x : Img} (h : Wrote G G' e n x) (hx : x.Ok) : thereI G' n (x.at'.getD x.blobs.length 0) = some x := by
  have hc := headD_count hx
  have hcr := headD_credit hx
  refine there_some.2 ⟨by rw [h.head], ?_, x.blobs, ?_, ?_⟩
  · rw [h.head]
    refine headOk_iff.2 ⟨rfl, fun h0 => by have := hx.job.1; simp only [headB'] at h0; omega, ?_, ?_, ?_, ?_, ?_⟩
    · show 5 ≤ (headD x x.blobs.length).length; rw [headD_len hx]; omega
    · show creditOf (headD x x.blobs.length) ≤ 10000; have := hx.credit; omega
    · show 1 ≤ countOf (headD x x.blobs.length); rw [hc]; exact hx.few.1
    · show countOf (headD x x.blobs.length) ≤ 16; rw [hc]; exact hx.few.2
    · show (headD x x.blobs.length).length = 5 + 2 * countOf (headD x x.blobs.length); rw [hc]; exact headD_len hx
  · rw [h.head]
    show blobsI G' n (headB' e x) (countOf (headD x x.blobs.length)) = _
    rw [hc]
    refine blobsI_some.2 ⟨rfl, fun j hj => ?_⟩
    show blobI G' n (headB' e x) (placeOf (headD x x.blobs.length) j) j = _
    rw [headD_place hx hj]
    have h16 := hx.few.2
    unfold blobI
    rw [if_neg (by have := h.inn _ (at_mem hx (Nat.le_of_lt hj)); omega), h.blob j hj, if_pos]
    · rfl
    · unfold blobOk
      simp only [Bool.and_eq_true, decide_eq_true_eq]
      refine ⟨trivial, rfl, rfl, rfl, rfl, by show (x.blobs.getD j []).length + 1 ≠ 0; omega, ?_⟩
      show (UInt8.ofNat j).toNat = j
      simp only [UInt8.toNat_ofNat']
      omega
  · rw [h.head]
    show x = ⟨x.job, x.ver, (creditOf (headD x x.blobs.length) : Int), x.blobs, (List.range (countOf (headD x x.blobs.length))).map (placeOf (headD x x.blobs.length)) ++ [x.at'.getD x.blobs.length 0]⟩
    rw [hc, hcr]
    have : (List.range x.blobs.length).map (placeOf (headD x x.blobs.length)) = (List.range x.blobs.length).map (fun j => x.at'.getD j 0) := List.map_congr_left fun j hj => headD_place hx (List.mem_range.1 hj)
    rw [this, at_list hx]
/-- what is there behind a put was there, or is what was put -/
theorem Wrote.was {G G' : Nat → BlkD × Nat} {e n : Nat} {x : Img} (h : Wrote G G' e n x) (hx : x.Ok) (hno : ∀ a, a < n → (G a).2 = 0 → (G a).1.kind = 6 → (G a).1.a = x.job → (G a).1.b ≠ x.ver) {a : Nat} (ha : a < n) {y : Img} (hy : thereI G' n a = some y) :
    y = x ∨ (thereI G n a = some y ∧ ∀ p ∈ y.at', p ∉ x.at') := by
  by_cases hm : a ∈ x.at'
  · obtain ⟨j, hj, rfl⟩ := at_get hx hm
    rcases Nat.lt_or_ge j x.blobs.length with h1 | h1
    · have h2 := there_kind hy
      rw [h.blob j h1] at h2
      exact absurd h2.2.1 (by show (5 : Nat) ≠ 6; omega)
    · obtain rfl : j = x.blobs.length := by omega
      rw [h.there hx] at hy
      cases hy
      exact .inl rfl
  · refine .inr ?_
    have ea := h.other a ha hm
    have hk := there_kind hy
    have hall : ∀ p ∈ y.at', p ∉ x.at' := by
      intro p hp hpx
      obtain ⟨hpn, rfl | ⟨q0, q1, q2, q3⟩⟩ := (there_places hy ha).2 p hp
      · exact hm hpx
      · obtain ⟨j, hj, rfl⟩ := at_get hx hpx
        rcases Nat.lt_or_ge j x.blobs.length with h1 | h1
        · rw [h.blob j h1] at q2 q3
          rw [ea] at hk
          exact hno a ha hk.1 hk.2.1 (by rw [← hk.2.2.1, ← q2]; rfl) (by rw [← hk.2.2.2, ← q3]; rfl)
        · obtain rfl : j = x.blobs.length := by omega
          rw [h.head] at q1
          exact absurd q1 (by show (6 : Nat) ≠ 5; omega)
    exact ⟨there_congr hy ha fun p hp => (h.other p ((there_places hy ha).2 p hp).1 (hall p hp)).symm, hall⟩
end Go.Proofs.YtoapibbbooongaaDoor
