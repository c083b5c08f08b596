/- Plain: a store whose slab has power: what is put is kept, and told behind the next opening. -/
import Derived.Test.YtoapibbbooongaaDoorImgQ
namespace Go.Proofs.YtoapibbbooongaaDoor
open Go.RowKit Go.Quad _root_.Quad _root_.Quad.Slab

/-! marks -/
theorem markI_len : ∀ (l : List Nat) (m : List Bool) (b : Bool), (l.foldl (fun m i => m.set i b) m).length = m.length
  | [], _, _ => rfl
  | x :: l, m, b => by rw [List.foldl_cons, markI_len l]; simp
theorem markI_get (i : Nat) (b : Bool) : ∀ (l : List Nat) (m : List Bool), i < m.length → (l.foldl (fun m i => m.set i b) m).getD i true = if i ∈ l then b else m.getD i true
  | [], m, _ => by simp
  | x :: l, m, h => by
    rw [List.foldl_cons, markI_get i b l (m.set x b) (by simpa using h)]
    by_cases h1 : i ∈ l
    · rw [if_pos h1, if_pos (List.mem_cons_of_mem _ h1)]
    · rw [if_neg h1]
      by_cases h2 : i = x
      · subst h2
        rw [if_pos (List.mem_cons_self ..), List.getD_eq_getElem?_getD, List.getElem?_set_self h]; rfl
      · rw [if_neg (by simp [h1, h2]), List.getD_eq_getElem?_getD, List.getElem?_set_ne (fun e => h2 e.symm), ← List.getD_eq_getElem?_getD]
theorem taken_len {m : List Bool} {k : Nat} (h : k ≤ leftM m) : (takenI m k).length = k := by
  unfold takenI; rw [List.length_take, freeP_all]; omega
theorem taken_mem {m : List Bool} {k i : Nat} (h : i ∈ takenI m k) : i < m.length ∧ m.getD i true = false := freeP_lt (List.mem_of_mem_take h)
theorem taken_nodup (m : List Bool) (k : Nat) : (takenI m k).Nodup := by
  have h := freeP_rise (m := m) m.length
  have : (freeP m m.length).Nodup := h.imp fun h e => by omega
  exact this.sublist (List.take_sublist _ _)
/-- how many are free, if just these are taken -/
theorem left_of {m : List Bool} {l : List Nat} (hd : l.Nodup) (hl : ∀ i ∈ l, i < m.length) (h : ∀ i, i < m.length → (m.getD i true = true ↔ i ∈ l)) : leftM m + l.length = m.length := by
  induction l generalizing m with
  | nil =>
    have e : m = List.replicate m.length false := by
      refine List.ext_getElem (by simp) fun i h1 h2 => ?_
      rw [List.getElem_replicate]
      have := h i h1
      rw [List.getD_eq_getElem?_getD, List.getElem?_eq_getElem h1] at this
      simpa using this
    rw [e]
    unfold leftM
    rw [List.countP_replicate]
    simp
  | cons x l ih =>
    obtain ⟨h1, h2⟩ := List.nodup_cons.1 hd
    have hx := hl x (List.mem_cons_self ..)
    have hx1 := (h x hx).2 (List.mem_cons_self ..)
    rw [List.getD_eq_getElem?_getD, List.getElem?_eq_getElem hx] at hx1
    have e1 : m[x]? = some true := by rw [List.getElem?_eq_getElem hx]; exact congrArg some hx1
    have := left_free e1
    have := ih (m := m.set x false) h2 (fun i hi => by simpa using hl i (List.mem_cons_of_mem _ hi)) fun i hi => by
      rw [List.length_set] at hi
      by_cases e : i = x
      · subst e
        rw [List.getD_eq_getElem?_getD, List.getElem?_set_self hi]
        exact ⟨fun h => (by cases h), fun h => absurd h h1⟩
      · rw [List.getD_eq_getElem?_getD, List.getElem?_set_ne (fun h => e h.symm), ← List.getD_eq_getElem?_getD, h i hi]
        simp [e]
    rw [List.length_set] at this
    rw [List.length_cons]
    omega

/-- a store whose slab has power -/
structure Inv (c : Im) : Prop where
  quiet : Quiet c.sl
  way : c.sl.way = []
  up : c.down = false
  epoch : c.epoch < 4294967296
  fit : c.from' + c.used.length ≤ c.sl.done.length
  small : c.used.length ≤ 4096
  sorted : c.L.Pairwise (fun a b => a.job < b.job)
  ok : ∀ x ∈ c.L, x.Ok
  inn : ∀ x ∈ c.L, ∀ p ∈ x.at', p < c.used.length
  there : ∀ x ∈ c.L, thereI (seeG c.sl c.from') c.used.length (x.at'.getD x.blobs.length 0) = some x
  heads : ∀ a, a < c.used.length → (seeG c.sl c.from' a).2 = 0 → (seeG c.sl c.from' a).1.kind = 6 → ∃ x ∈ c.L, x.job = (seeG c.sl c.from' a).1.a ∧ ((seeG c.sl c.from' a).1.b < x.ver ∨ a = x.at'.getD x.blobs.length 0)
  used : ∀ i, i < c.used.length → (c.used.getD i true = true ↔ ∃ x ∈ c.L, i ∈ x.at')
  apart : ∀ x ∈ c.L, ∀ y ∈ c.L, x.job ≠ y.job → ∀ p ∈ x.at', p ∉ y.at'
theorem head_in {x : Img} {n : Nat} (h : x.Ok) (hn : ∀ p ∈ x.at', p < n) : x.at'.getD x.blobs.length 0 < n := hn _ (at_mem h (Nat.le_refl _))
/-- the next opening tells the same -/
theorem Inv.find {c : Im} (h : Inv c) (j : Nat) : findI (listI (seeG c.sl c.from') c.used.length c.used.length) j = findI c.L j := by
  cases hf : findI c.L j with
  | none =>
    refine list_none fun a ha y hy e => ?_
    obtain ⟨h0, h1, h2, h3⟩ := there_kind hy
    obtain ⟨x, hx, e1, _⟩ := h.heads a ha h0 h1
    exact find_none hf x hx (by omega)
  | some x =>
    obtain ⟨hx, rfl⟩ := find_some hf
    refine list_find (head_in (h.ok x hx) (h.inn x hx)) (h.there x hx) fun a ha y hy e => ?_
    obtain ⟨h0, h1, h2, h3⟩ := there_kind hy
    obtain ⟨z, hz, e1, e2⟩ := h.heads a ha h0 h1
    have hzx := find_key h.sorted hz
    rw [show z.job = x.job by omega, hf] at hzx
    cases hzx
    rcases e2 with e2 | e2
    · exact .inl (by omega)
    · subst e2
      rw [h.there x hx] at hy
      cases hy
      exact .inr rfl
/-- an image that may be put -/
structure Puts (c : Im) (x : Img) : Prop where
  right : rightI x = 0
  job : x.job < 4294967296
  ver : x.ver < 4294967296
  newer : ∀ y, findI c.L x.job = some y → y.ver < x.ver
  room : x.blobs.length + 1 ≤ leftM c.used
theorem right_zero {x : Img} (h : rightI x = 0) : 0 < x.job ∧ (0 ≤ x.credit ∧ x.credit ≤ 10000) ∧ (1 ≤ x.blobs.length ∧ x.blobs.length ≤ 16) ∧ ∀ b ∈ x.blobs, b.length ≤ 103 := by
  unfold rightI at h
  split at h
  · cases h
  · rename_i h1
    split at h
    · cases h
    · rename_i h2
      refine ⟨by omega, by omega, by omega, fun b hb => ?_⟩
      have : ¬ (x.blobs.any (fun b => decide (103 < b.length)) = true) := h2
      rw [List.any_eq_true] at this
      have : ¬ (103 < b.length) := fun hl => this ⟨b, hb, by simpa using hl⟩
      omega
theorem placed_ok {c : Im} {x : Img} (hc : c.used.length ≤ 4096) (h : Puts c x) : (placedI c x).Ok := by
  obtain ⟨h1, h2, h3, h4⟩ := right_zero h.right
  exact ⟨⟨h1, h.job⟩, h.ver, h2, h3, h4, taken_len h.room, taken_nodup _ _, fun p hp => by have := (taken_mem hp).1; omega⟩
theorem putI_ok {c : Im} {x : Img} (hi : Inv c) (h : Puts c x) : ∃ s', Quiet s' ∧ s'.way = [] ∧ s'.done.length = c.sl.done.length ∧ s'.steps = c.sl.steps + x.blobs.length + 3 ∧ Wrote (seeG c.sl c.from') (seeG s' c.from') c.epoch c.used.length (placedI c x) ∧
    putI c x = ({ c with sl := s', used := freeI (markI c.used (takenI c.used (x.blobs.length + 1))) (atI c.L x.job), L := setK Img.job (placedI c x) c.L }, 0) := by
  obtain ⟨s', e1, q, d, w, t, W⟩ := write_quiet (e := c.epoch) hi.quiet (placed_ok hi.small h) hi.epoch hi.fit (fun p hp => (taken_mem hp).1)
  refine ⟨s', q, w, d, t, W, ?_⟩
  unfold putI
  have hs : (match findI c.L x.job with | none => false | some y => decide (x.ver ≤ y.ver)) = false := by
    cases hf : findI c.L x.job with
    | none => rfl
    | some y => have := h.newer y hf; simp; omega
  rw [if_neg (by rw [hi.up, hi.quiet.on]; simp), if_neg (by simp [h.right]), if_neg (by rw [Bool.not_eq_true]; exact hs), if_neg (by have := h.room; omega), e1, if_neg (by simp)]
theorem atI_mem {L : List Img} (hs : L.Pairwise (fun a b => a.job < b.job)) {j p : Nat} : p ∈ atI L j ↔ ∃ z ∈ L, z.job = j ∧ p ∈ z.at' := by
  unfold atI
  cases hf : findI L j with
  | none =>
    constructor
    · intro h; cases h
    · rintro ⟨z, hz, e, _⟩; exact absurd e (find_none hf z hz)
  | some y =>
    obtain ⟨hy, rfl⟩ := find_some hf
    constructor
    · intro h; exact ⟨y, hy, rfl, h⟩
    · rintro ⟨z, hz, e, h⟩
      have := find_key hs hz
      rw [e, hf] at this
      cases this
      exact h
theorem Inv.put {c : Im} {x : Img} (hi : Inv c) (h : Puts c x) : Inv (putI c x).1 ∧ (putI c x).2 = 0 ∧ (putI c x).1.used.length = c.used.length ∧ (putI c x).1.from' = c.from' ∧ (putI c x).1.L = setK Img.job (placedI c x) c.L ∧ (putI c x).1.sl.steps ≤ c.sl.steps + 19 ∧ (putI c x).1.sl.done.length = c.sl.done.length := by
  obtain ⟨s', q, w, d, t, W, e⟩ := putI_ok hi h
  have hx := placed_ok hi.small h
  have h16 := (right_zero h.right).2.2.1
  have hu : (freeI (markI c.used (takenI c.used (x.blobs.length + 1))) (atI c.L x.job)).length = c.used.length := by
    unfold freeI markI; rw [markI_len, markI_len]
  have hdis : ∀ z ∈ c.L, ∀ p ∈ z.at', p ∉ (placedI c x).at' := fun z hz p hp hm => by
    have h1 := (hi.used p (hi.inn z hz p hp)).2 ⟨z, hz, hp⟩
    have h2 := (taken_mem hm).2
    rw [h1] at h2
    cases h2
  have hget : ∀ i, i < c.used.length → (freeI (markI c.used (takenI c.used (x.blobs.length + 1))) (atI c.L x.job)).getD i true = if i ∈ atI c.L x.job then false else if i ∈ (placedI c x).at' then true else c.used.getD i true := by
    intro i hi'
    unfold freeI markI
    rw [markI_get _ _ _ _ (by rw [markI_len]; exact hi'), markI_get _ _ _ _ hi']
    rfl
  rw [e]
  refine ⟨⟨q, w, hi.up, hi.epoch, ?_, ?_, setK_sorted _ _ hi.sorted, ?_, ?_, ?_, ?_, ?_, ?_⟩, rfl, hu, rfl, rfl, by show s'.steps ≤ _; omega, d⟩
  · show c.from' + (freeI _ _).length ≤ s'.done.length
    rw [hu, d]; exact hi.fit
  · show (freeI _ _).length ≤ _
    rw [hu]; exact hi.small
  · intro z hz
    rcases (setK_mem Img.job _ hi.sorted z).1 hz with rfl | ⟨h1, _⟩
    · exact hx
    · exact hi.ok z h1
  · intro z hz p hp
    show p < (freeI _ _).length
    rw [hu]
    rcases (setK_mem Img.job _ hi.sorted z).1 hz with rfl | ⟨h1, _⟩
    · exact (taken_mem hp).1
    · exact hi.inn z h1 p hp
  · intro z hz
    show thereI (seeG s' c.from') (freeI _ _).length _ = _
    rw [hu]
    rcases (setK_mem Img.job _ hi.sorted z).1 hz with rfl | ⟨h1, _⟩
    · exact W.there hx
    · exact there_congr (hi.there z h1) (head_in (hi.ok z h1) (hi.inn z h1)) fun p hp => W.other p (hi.inn z h1 p hp) (hdis z h1 p hp)
  · intro a ha h0 h1
    have ha : a < c.used.length := by rw [← hu]; exact ha
    show ∃ z ∈ setK Img.job (placedI c x) c.L, _
    have h0 : (seeG s' c.from' a).2 = 0 := h0
    have h1 : (seeG s' c.from' a).1.kind = 6 := h1
    show ∃ z ∈ setK Img.job (placedI c x) c.L, z.job = (seeG s' c.from' a).1.a ∧ ((seeG s' c.from' a).1.b < z.ver ∨ a = z.at'.getD z.blobs.length 0)
    by_cases hm : a ∈ (placedI c x).at'
    · obtain ⟨j, hj, rfl⟩ := at_get hx hm
      rcases Nat.lt_or_ge j (placedI c x).blobs.length with h2 | h2
      · rw [W.blob j h2] at h1
        exact absurd h1 (by show (5 : Nat) ≠ 6; omega)
      · obtain rfl : j = (placedI c x).blobs.length := by omega
        rw [W.head]
        exact ⟨placedI c x, (setK_mem Img.job _ hi.sorted _).2 (.inl rfl), rfl, .inr rfl⟩
    · rw [W.other a ha hm] at h0 h1 ⊢
      obtain ⟨z, hz, e1, e2⟩ := hi.heads a ha h0 h1
      by_cases ej : z.job = x.job
      · have hzv : z.ver < x.ver := h.newer z (by rw [← ej]; exact find_key hi.sorted hz)
        refine ⟨placedI c x, (setK_mem Img.job _ hi.sorted _).2 (.inl rfl), by rw [← e1, ej]; rfl, .inl ?_⟩
        show _ < x.ver
        rcases e2 with e2 | e2
        · omega
        · subst e2
          have := there_kind (hi.there z hz)
          omega
      · exact ⟨z, (setK_mem Img.job _ hi.sorted _).2 (.inr ⟨hz, ej⟩), e1, e2⟩
  · intro i hi'
    have hi' : i < c.used.length := by rw [← hu]; exact hi'
    show (freeI _ _).getD i true = true ↔ ∃ z ∈ setK Img.job (placedI c x) c.L, i ∈ z.at'
    rw [hget i hi']
    constructor
    · intro h1
      split at h1
      · cases h1
      · rename_i h2
        split at h1
        · rename_i h3
          exact ⟨placedI c x, (setK_mem Img.job _ hi.sorted _).2 (.inl rfl), h3⟩
        · obtain ⟨z, hz, hp⟩ := (hi.used i hi').1 h1
          exact ⟨z, (setK_mem Img.job _ hi.sorted _).2 (.inr ⟨hz, fun e => h2 ((atI_mem hi.sorted).2 ⟨z, hz, e, hp⟩)⟩), hp⟩
    · rintro ⟨z, hz, hp⟩
      rcases (setK_mem Img.job _ hi.sorted z).1 hz with rfl | ⟨h1, h2⟩
      · rw [if_neg fun hm => ?_, if_pos hp]
        obtain ⟨z, hz, _, hq⟩ := (atI_mem hi.sorted).1 hm
        exact hdis z hz i hq hp
      · rw [if_neg fun hm => ?_, if_neg (hdis z h1 i hp)]
        · exact (hi.used i hi').2 ⟨z, h1, hp⟩
        · obtain ⟨y, hy, ey, hq⟩ := (atI_mem hi.sorted).1 hm
          exact hi.apart z h1 y hy (by rw [ey]; exact h2) i hp hq
  · intro y hy z hz hne p hp hq
    rcases (setK_mem Img.job _ hi.sorted y).1 hy with rfl | ⟨h1, h2⟩
    · rcases (setK_mem Img.job _ hi.sorted z).1 hz with rfl | ⟨h3, h4⟩
      · exact hne rfl
      · exact hdis z h3 p hq hp
    · rcases (setK_mem Img.job _ hi.sorted z).1 hz with rfl | ⟨h3, h4⟩
      · exact hdis y h1 p hp hq
      · exact hi.apart y h1 z h3 hne p hp hq
/-- a slab without images -/
theorem list_empty {G : Nat → BlkD × Nat} {n : Nat} (h : ∀ a, a < n → (G a).2 ≠ 0) : ∀ k, k ≤ n → listI G n k = []
  | 0, _ => rfl
  | k + 1, hk => by
    rw [listI_succ, list_empty h k (by omega)]
    unfold thereI
    rw [if_pos (h k (by omega))]
    rfl
theorem Inv.fresh {s : Sl} {f n e : Nat} (q : Quiet s) (hw : s.way = []) (he : e < 4294967296) (hf : f + n ≤ s.done.length) (hn : n ≤ 4096) (h : ∀ a, a < n → (seeG s f a).2 ≠ 0) : Inv ⟨s, f, e, [], List.replicate n false, false⟩ := by
  refine ⟨q, hw, rfl, he, by simpa using hf, by simpa using hn, List.Pairwise.nil, by simp, by simp, by simp, fun a ha h0 => ?_, fun i hi => ?_, by simp⟩
  · exact absurd h0 (h a (by simpa using ha))
  · have hi : i < n := by simpa using hi
    simp [List.getD_eq_getElem?_getD, List.getElem?_replicate, hi]
theorem used_nil (n : Nat) : usedI n [] = List.replicate n false := by
  unfold usedI
  refine List.ext_getElem (by simp) fun i h1 h2 => by simp
theorem new_see (n f a : Nat) (h : f + a < n) : (seeG (newL n) f a).2 = 6 := by
  unfold seeG
  have hs : seenL (newL n) (f + a) = List.replicate 128 0 := by
    unfold seenL newL
    dsimp only [List.foldl_nil]
    rw [List.getD_eq_getElem?_getD, List.getElem?_replicate, if_pos h]
    rfl
  rw [getB_at (by simpa [newL] using h) rfl, hs]
  decide +kernel
theorem new_quiet (n : Nat) : Quiet (newL n) := ⟨rfl, rfl, fun w hw => by cases hw⟩
theorem open_new {n f t e : Nat} (h1 : f < t) (h2 : t ≤ n) (h3 : n ≤ 4096) (he : e < 4294967296) : openI (newL n) (f : Int) (t : Int) e = (some ⟨newL n, f, e, [], List.replicate (t - f) false, false⟩, 0) ∧ Inv ⟨newL n, f, e, [], List.replicate (t - f) false, false⟩ := by
  have hl : (newL n).done.length = n := by simp [newL]
  have hs : ∀ a, a < t - f → (seeG (newL n) f a).2 ≠ 0 := fun a ha => by rw [new_see n f a (by omega)]; omega
  refine ⟨?_, Inv.fresh (new_quiet n) rfl he (by omega) (by omega) hs⟩
  unfold openI
  rw [if_neg (by omega), if_neg (by simp [newL]), Int.toNat_natCast, show ((t : Int) - (f : Int)).toNat = t - f from by omega, list_empty hs _ (Nat.le_refl _), used_nil]
/-- an opening of a slab that a store left -/
theorem Inv.open' {c : Im} (h : Inv c) (e : Nat) (hn : 0 < c.used.length) : openI c.sl (c.from' : Int) ((c.from' + c.used.length : Nat) : Int) e = (some ⟨c.sl, c.from', e, listI (seeG c.sl c.from') c.used.length c.used.length, usedI c.used.length (listI (seeG c.sl c.from') c.used.length c.used.length), false⟩, 0) := by
  have hf := h.fit
  unfold openI
  rw [if_neg (by omega), if_neg (by simp [h.quiet.on]), Int.toNat_natCast, show (((c.from' + c.used.length : Nat) : Int) - (c.from' : Int)).toNat = c.used.length from by omega]
end Go.Proofs.YtoapibbbooongaaDoor
