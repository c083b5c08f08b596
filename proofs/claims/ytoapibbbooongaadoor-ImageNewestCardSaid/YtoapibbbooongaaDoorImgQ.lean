/- Plain: a put on a slab whose power stays: all of it stands, and the next opening tells it. -/
import Derived.Test.YtoapibbbooongaaDoorImgP
namespace Go.Proofs.YtoapibbbooongaaDoor
open Go.RowKit Go.Quad _root_.Quad _root_.Quad.Slab

theorem thenS_ok (s : Sl) (g : Sl → Sl × Nat) : thenS (s, 0) g = g s := rfl
structure Quiet (s : Sl) : Prop where
  on : s.off = false
  arm : s.armed = 0
  way : ∀ w ∈ s.way, w.1 < s.done.length
theorem quiet_put {s : Sl} {k : Nat} {x : BlkD} (h : Quiet s) (hk : k < s.done.length) (hl : x.data.length ≤ 104) (h0 : x.kind ≠ 0) :
    ∃ s', putB s (k : Int) x = (s', 0) ∧ Quiet s' ∧ s'.done = s.done ∧ (∀ i, seenL s' i = if k = i then encB x else seenL s i) ∧ s'.steps = s.steps + 1 ∧ s'.way.length = s.way.length + 1 := by
  have hlen := encB_length (x := x) (by omega)
  obtain ⟨q1, q2⟩ := step_quiet h.arm
  have e : putB s (k : Int) x = ({ stepL s with way := s.way ++ [(k, encB x)] }, 0) := by
    unfold putB
    rw [if_neg (by omega), if_neg (by omega), if_neg h0]
    unfold writeL
    rw [if_neg (by rw [hasL_zero hk (by omega) h.on]; simp), Int.toNat_natCast, pad_full hlen, q1, h.on]
    rfl
  refine ⟨_, e, ⟨by rw [← h.on, ← q1], q2, fun w hw => ?_⟩, rfl, fun i => ?_, rfl, by simp⟩
  · rcases List.mem_append.1 hw with hw | hw
    · exact h.way w hw
    · rw [List.mem_singleton] at hw; subst hw; exact hk
  · unfold seenL
    dsimp only
    rw [List.foldl_append]
    rfl
theorem flush_get (i : Nat) : ∀ (l : List (Nat × Bytes)) (d : List Bytes), i < d.length → (l.foldl (fun d w => d.set w.1 w.2) d).getD i [] = l.foldl (fun p w => if w.1 = i then w.2 else p) (d.getD i []) ∧ (l.foldl (fun d w => d.set w.1 w.2) d).length = d.length
  | [], d, _ => ⟨rfl, rfl⟩
  | w :: l, d, hi => by
    have := flush_get i l (d.set w.1 w.2) (by simpa using hi)
    rw [List.foldl_cons, List.foldl_cons]
    have e : (d.set w.1 w.2).getD i [] = if w.1 = i then w.2 else d.getD i [] := by
      rw [List.getD_eq_getElem?_getD, List.getElem?_set]
      split
      · rename_i h; subst h; rw [if_pos hi]; rfl
      · rw [List.getD_eq_getElem?_getD]
    rw [e] at this
    exact ⟨this.1, by rw [this.2]; simp⟩
theorem fold_len : ∀ (l : List (Nat × Bytes)) (d : List Bytes), (l.foldl (fun d w => d.set w.1 w.2) d).length = d.length
  | [], d => rfl
  | w :: l, d => by rw [List.foldl_cons, fold_len l]; simp
theorem quiet_flush {s : Sl} (h : Quiet s) : ∃ s', flushL s = (s', 0) ∧ Quiet s' ∧ s'.done.length = s.done.length ∧ (∀ i, i < s.done.length → seenL s' i = seenL s i) ∧ s'.steps = s.steps + 1 ∧ s'.way = [] := by
  obtain ⟨q1, q2⟩ := step_quiet h.arm
  have q1 : (stepL s).off = false := by rw [q1]; exact h.on
  have e : flushL s = ({ stepL s with done := s.way.foldl (fun d w => d.set w.1 w.2) s.done, way := [] }, 0) := by
    unfold flushL
    rw [if_neg (by simp [h.on]), if_neg (by simp [q1])]
  refine ⟨_, e, ⟨q1, q2, fun w hw => by cases hw⟩, fold_len _ _, fun i hi => ?_, rfl, rfl⟩
  unfold seenL
  dsimp only [List.foldl_nil]
  rw [(flush_get i s.way s.done hi).1]
theorem quiet_crash {s : Sl} (h : Quiet s) (hw : s.way = []) (fates : Bytes) (cut : Int) : crashL s fates cut = s := by
  unfold crashL
  rw [hw]
  obtain ⟨d, w, o, a, t⟩ := s
  have h1 := h.on
  have h2 := h.arm
  dsimp only at h1 h2 hw
  subst h1 h2 hw
  rfl
theorem wr_quiet {f e : Nat} {x : Img} {s : Sl} (h : Quiet s) (hx : x.Ok) (hin : ∀ p ∈ x.at', f + p < s.done.length) : ∀ k, k ≤ x.blobs.length →
    ∃ s', wrBlobs f e x s k = (s', 0) ∧ Quiet s' ∧ s'.done.length = s.done.length ∧ s'.steps = s.steps + k ∧ s'.way.length = s.way.length + k ∧
      (∀ j, j < k → seenL s' (f + x.at'.getD j 0) = encB (blobB e x j)) ∧ ∀ i, (∀ j, j < k → i ≠ f + x.at'.getD j 0) → seenL s' i = seenL s i
  | 0, _ => ⟨s, rfl, h, rfl, rfl, rfl, fun j hj => by omega, fun _ _ => rfl⟩
  | k + 1, hk => by
    obtain ⟨s1, e1, q1, d1, t1, w1, b1, o1⟩ := wr_quiet h hx hin k (by omega)
    have hm := at_mem hx (j := k) (by omega)
    obtain ⟨s2, e2, q2, d2, v2, t2, w2⟩ := quiet_put (x := blobB e x k) q1 (k := f + x.at'.getD k 0) (by rw [d1]; exact hin _ hm) (by
      show (x.blobs.getD k []).length + 1 ≤ 104
      have : x.blobs.getD k [] ∈ x.blobs := by
        rw [List.getD_eq_getElem?_getD, List.getElem?_eq_getElem (by omega)]; exact List.getElem_mem _
      have := hx.small _ this
      omega) (by show (5 : Nat) ≠ 0; omega)
    have hne : ∀ j, j < k → x.at'.getD j 0 ≠ x.at'.getD k 0 := by
      intro j hj he
      have l1 : j < x.at'.length := by rw [hx.at']; omega
      have l2 : k < x.at'.length := by rw [hx.at']; omega
      rw [List.getD_eq_getElem?_getD, List.getD_eq_getElem?_getD, List.getElem?_eq_getElem l1, List.getElem?_eq_getElem l2] at he
      have := (List.getElem_inj hx.nodup).1 he
      omega
    refine ⟨s2, ?_, q2, by rw [d2, d1], by omega, by omega, fun j hj => ?_, fun i hi => ?_⟩
    · unfold wrBlobs
      rw [e1, if_neg (by simp)]
      exact e2
    · rw [v2]
      rcases Nat.lt_or_ge j k with h1 | h1
      · rw [if_neg (by have := hne j h1; omega), b1 j h1]
      · obtain rfl : j = k := by omega
        rw [if_pos rfl]
    · rw [v2, if_neg (by have := hi k (by omega); omega), o1 i fun j hj => hi j (by omega)]
theorem blobB_ok {e : Nat} {x : Img} (hx : x.Ok) (he : e < 4294967296) (k : Nat) : (blobB e x k).Ok := ⟨by show 5 < 256; omega, he, hx.job.2, hx.ver⟩
theorem headB_ok {e : Nat} {x : Img} (hx : x.Ok) (he : e < 4294967296) : (headB' e x).Ok := ⟨by show 6 < 256; omega, he, hx.job.2, hx.ver⟩
theorem write_quiet {f e n : Nat} {x : Img} {s : Sl} (h : Quiet s) (hx : x.Ok) (he : e < 4294967296) (hn : f + n ≤ s.done.length) (hin : ∀ p ∈ x.at', p < n) :
    ∃ s', writeI f e x s = (s', 0) ∧ Quiet s' ∧ s'.done.length = s.done.length ∧ s'.way = [] ∧ s'.steps = s.steps + x.blobs.length + 3 ∧ Wrote (seeG s f) (seeG s' f) e n x := by
  have hin' : ∀ p ∈ x.at', f + p < s.done.length := fun p hp => by have := hin p hp; omega
  obtain ⟨s1, e1, q1, d1, t1, w1, b1, o1⟩ := wr_quiet (e := e) h hx hin' x.blobs.length (Nat.le_refl _)
  obtain ⟨s2, e2, q2, d2, v2, t2, w2⟩ := quiet_flush q1
  have hm := at_mem hx (Nat.le_refl x.blobs.length)
  obtain ⟨s3, e3, q3, d3, v3, t3, w3⟩ := quiet_put (x := headB' e x) q2 (k := f + x.at'.getD x.blobs.length 0) (by rw [d2, d1]; exact hin' _ hm) (by
    show (headD x x.blobs.length).length ≤ 104
    rw [headD_len hx]; have := hx.few.2; omega) (by show (6 : Nat) ≠ 0; omega)
  obtain ⟨s4, e4, q4, d4, v4, t4, w4⟩ := quiet_flush q3
  have hl : s4.done.length = s.done.length := by rw [d4, d3, d2, d1]
  have hne : ∀ j, j < x.blobs.length → x.at'.getD j 0 ≠ x.at'.getD x.blobs.length 0 := by
    intro j hj he
    have l1 : j < x.at'.length := by rw [hx.at']; omega
    have l2 : x.blobs.length < x.at'.length := by rw [hx.at']; omega
    rw [List.getD_eq_getElem?_getD, List.getD_eq_getElem?_getD, List.getElem?_eq_getElem l1, List.getElem?_eq_getElem l2] at he
    have := (List.getElem_inj hx.nodup).1 he
    omega
  have see : ∀ i, i < s.done.length → seenL s4 i = if f + x.at'.getD x.blobs.length 0 = i then encB (headB' e x) else seenL s1 i := by
    intro i hi
    rw [v4 i (by rw [d3, d2, d1]; exact hi), v3]
    split
    · rfl
    · exact v2 i (by rw [d1]; exact hi)
  refine ⟨s4, ?_, q4, hl, w4, by omega, ⟨fun j hj => ?_, ?_, fun p hp hm => ?_, hin⟩⟩
  · unfold writeI
    rw [e1, thenS_ok, e2, thenS_ok, e3, thenS_ok, e4]
  · have hp := hin' _ (at_mem hx (Nat.le_of_lt hj))
    unfold seeG
    rw [getB_at (by rw [hl]; exact hp) q4.on, see _ hp, if_neg (by have := hne j hj; omega), b1 j hj]
    refine readB_enc (blobB_ok hx he j) (by show (5 : Nat) ≠ 0; omega) ?_
    show (x.blobs.getD j []).length + 1 ≤ 104
    have : x.blobs.getD j [] ∈ x.blobs := by
      rw [List.getD_eq_getElem?_getD, List.getElem?_eq_getElem (by omega)]; exact List.getElem_mem _
    have := hx.small _ this
    omega
  · have hp := hin' _ hm
    unfold seeG
    rw [getB_at (by rw [hl]; exact hp) q4.on, see _ hp, if_pos rfl]
    refine readB_enc (headB_ok hx he) (by show (6 : Nat) ≠ 0; omega) ?_
    show (headD x x.blobs.length).length ≤ 104
    rw [headD_len hx]; have := hx.few.2; omega
  · have hp' : f + p < s.done.length := by omega
    have ne1 : f + x.at'.getD x.blobs.length 0 ≠ f + p := fun e => hm (by
      have e2 : x.at'.getD x.blobs.length 0 = p := by omega
      rw [← e2]; exact at_mem hx (Nat.le_refl _))
    have ne2 : ∀ j, j < x.blobs.length → f + p ≠ f + x.at'.getD j 0 := fun j hj e => hm (by
      have e2 : x.at'.getD j 0 = p := by omega
      rw [← e2]; exact at_mem hx (Nat.le_of_lt hj))
    unfold seeG
    rw [getB_at (by rw [hl]; exact hp') q4.on, getB_at hp' h.on, see _ hp', if_neg ne1, o1 _ ne2]

/-! the list of an opening -/
theorem find_key {L : List Img} (hs : L.Pairwise (fun a b => a.job < b.job)) {x : Img} (hx : x ∈ L) : findI L x.job = some x := by
  unfold findI
  induction L with
  | nil => cases hx
  | cons y L ih =>
    obtain ⟨h1, h2⟩ := List.pairwise_cons.1 hs
    rw [List.find?_cons]
    rcases List.mem_cons.1 hx with rfl | hx
    · simp
    · have := h1 x hx
      rw [show (y.job == x.job) = false by simp; omega]
      exact ih h2 hx
theorem find_some {L : List Img} {j : Nat} {x : Img} (h : findI L j = some x) : x ∈ L ∧ x.job = j := ⟨List.mem_of_find?_eq_some h, by simpa using List.find?_some h⟩
theorem find_none {L : List Img} {j : Nat} (h : findI L j = none) : ∀ x ∈ L, x.job ≠ j := fun x hx => by simpa using List.find?_eq_none.1 h x hx
/-- what an opening's list has of each place -/
structure Lists (G : Nat → BlkD × Nat) (n k : Nat) (L : List Img) : Prop where
  sorted : L.Pairwise (fun a b => a.job < b.job)
  src : ∀ x ∈ L, ∃ a, a < k ∧ thereI G n a = some x
  best : ∀ a, a < k → ∀ y, thereI G n a = some y → ∃ x ∈ L, x.job = y.job ∧ y.ver ≤ x.ver
theorem lists (G : Nat → BlkD × Nat) (n : Nat) : ∀ k, Lists G n k (listI G n k)
  | 0 => ⟨List.Pairwise.nil, fun x hx => (List.not_mem_nil hx).elim, fun a ha => by omega⟩
  | k + 1 => by
    have ih := lists G n k
    rw [listI_succ]
    cases ht : thereI G n k with
    | none =>
      refine ⟨ih.sorted, fun x hx => ?_, fun a ha y hy => ?_⟩
      · obtain ⟨a, ha, h⟩ := ih.src x hx; exact ⟨a, by omega, h⟩
      · rcases Nat.lt_or_ge a k with h | h
        · exact ih.best a h y hy
        · obtain rfl : a = k := by omega
          rw [ht] at hy; cases hy
    | some x =>
      have hset : (∀ z ∈ listI G n k, z.job = x.job → z.ver ≤ x.ver) → Lists G n (k + 1) (setK Img.job x (listI G n k)) := by
        intro hle
        refine ⟨setK_sorted Img.job x ih.sorted, fun z hz => ?_, fun a ha y hy => ?_⟩
        · rcases (setK_mem Img.job x ih.sorted z).1 hz with rfl | ⟨h, _⟩
          · exact ⟨k, by omega, ht⟩
          · obtain ⟨a, ha, h⟩ := ih.src z h; exact ⟨a, by omega, h⟩
        · rcases Nat.lt_or_ge a k with h | h
          · obtain ⟨z, hz, e, hv⟩ := ih.best a h y hy
            by_cases ej : z.job = x.job
            · exact ⟨x, (setK_mem Img.job x ih.sorted x).2 (.inl rfl), by omega, by have := hle z hz ej; omega⟩
            · exact ⟨z, (setK_mem Img.job x ih.sorted z).2 (.inr ⟨hz, ej⟩), e, hv⟩
          · obtain rfl : a = k := by omega
            rw [ht] at hy; cases hy
            exact ⟨x, (setK_mem Img.job x ih.sorted x).2 (.inl rfl), rfl, Nat.le_refl _⟩
      unfold addI
      dsimp only
      cases hf : findI (listI G n k) x.job with
      | none => exact hset fun z hz e => absurd e (find_none hf z hz)
      | some y =>
        have hy := find_some hf
        dsimp only
        split
        · rename_i hv
          refine hset fun z hz e => ?_
          have h1 := find_key ih.sorted hz
          have h2 := find_key ih.sorted hy.1
          rw [e, ← hy.2, h2] at h1
          cases h1
          omega
        · rename_i hv
          refine ⟨ih.sorted, fun z hz => ?_, fun a ha z hz => ?_⟩
          · obtain ⟨a, ha, h⟩ := ih.src z hz; exact ⟨a, by omega, h⟩
          · rcases Nat.lt_or_ge a k with h | h
            · exact ih.best a h z hz
            · obtain rfl : a = k := by omega
              rw [ht] at hz; cases hz
              exact ⟨y, hy.1, hy.2, by omega⟩
/-- the newest of a job is told -/
theorem list_find {G : Nat → BlkD × Nat} {n a : Nat} {x : Img} (ha : a < n) (h : thereI G n a = some x) (hb : ∀ a', a' < n → ∀ y, thereI G n a' = some y → y.job = x.job → y.ver < x.ver ∨ y = x) : findI (listI G n n) x.job = some x := by
  have L := lists G n n
  obtain ⟨z, hz, e, hv⟩ := L.best a ha x h
  obtain ⟨a', ha', h'⟩ := L.src z hz
  rcases hb a' ha' z h' e with h1 | rfl
  · omega
  · exact find_key L.sorted hz
theorem list_none {G : Nat → BlkD × Nat} {n j : Nat} (hb : ∀ a, a < n → ∀ y, thereI G n a = some y → y.job ≠ j) : findI (listI G n n) j = none := by
  have L := lists G n n
  cases hf : findI (listI G n n) j with
  | none => rfl
  | some x =>
    obtain ⟨h1, h2⟩ := find_some hf
    obtain ⟨a, ha, h⟩ := L.src x h1
    exact absurd h2 (hb a ha x h)
end Go.Proofs.YtoapibbbooongaaDoor
