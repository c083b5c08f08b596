/- Plain: what a put may come to; drops; one job's images. -/
import Derived.Test.YtoapibbbooongaaDoorImgR
namespace Go.Proofs.YtoapibbbooongaaDoor
open Go.RowKit Go.Quad _root_.Quad _root_.Quad.Slab

/-- a put that isn't done changes nothing -/
inductive PutWays (c : Im) (x : Img) : Prop
  | no (r : Nat) (h : putI c x = (c, r)) (h0 : r = rightI x ∧ rightI x ≠ 0 ∨ r = 12 ∧ (∃ y, findI c.L x.job = some y ∧ x.ver ≤ y.ver) ∨ r = 8 ∧ leftM c.used < x.blobs.length + 1)
  | yes (h : Puts c x)
theorem put_ways {c : Im} {x : Img} (hi : Inv c) (hj : x.job < 4294967296) (hv : x.ver < 4294967296) : PutWays c x := by
  by_cases h1 : rightI x = 0
  · cases hf : findI c.L x.job with
    | none =>
      by_cases h3 : leftM c.used < x.blobs.length + 1
      · refine .no 8 ?_ (.inr (.inr ⟨rfl, h3⟩))
        unfold putI
        rw [if_neg (by rw [hi.up, hi.quiet.on]; simp), if_neg (by simp [h1]), hf, if_neg (by simp), if_pos h3]
      · exact .yes ⟨h1, hj, hv, fun y hy => (by rw [hf] at hy; cases hy), by omega⟩
    | some y =>
      by_cases h2 : x.ver ≤ y.ver
      · refine .no 12 ?_ (.inr (.inl ⟨rfl, y, hf, h2⟩))
        unfold putI
        rw [if_neg (by rw [hi.up, hi.quiet.on]; simp), if_neg (by simp [h1]), hf, if_pos (by simpa using h2)]
      · by_cases h3 : leftM c.used < x.blobs.length + 1
        · refine .no 8 ?_ (.inr (.inr ⟨rfl, h3⟩))
          unfold putI
          rw [if_neg (by rw [hi.up, hi.quiet.on]; simp), if_neg (by simp [h1]), hf, if_neg (by simpa using h2), if_pos h3]
        · exact .yes ⟨h1, hj, hv, fun z hz => (by rw [hf] at hz; cases hz; omega), by omega⟩
  · refine .no (rightI x) ?_ (.inl ⟨rfl, h1⟩)
    unfold putI
    rw [if_neg (by rw [hi.up, hi.quiet.on]; simp), if_pos h1]
/-- whatever is put, the store is one whose slab has power -/
theorem Inv.put' {c : Im} {x : Img} (hi : Inv c) (hj : x.job < 4294967296) (hv : x.ver < 4294967296) : Inv (putI c x).1 ∧ (putI c x).1.used.length = c.used.length ∧ (putI c x).1.from' = c.from' ∧ (putI c x).1.sl.steps ≤ c.sl.steps + 19 ∧ (putI c x).1.sl.done.length = c.sl.done.length ∧ (∀ j, j ≠ x.job → findI (putI c x).1.L j = findI c.L j) := by
  rcases put_ways hi hj hv with ⟨r, h, _⟩ | h
  · rw [h]; exact ⟨hi, rfl, rfl, Nat.le_add_right _ _, rfl, fun _ _ => rfl⟩
  · obtain ⟨h1, _, h2, h3, h4, h5, h6⟩ := hi.put h
    refine ⟨h1, h2, h3, h5, h6, fun j hj => ?_⟩
    rw [h4]
    cases hf : findI c.L j with
    | none =>
      cases hg : findI (setK Img.job (placedI c x) c.L) j with
      | none => rfl
      | some z =>
        obtain ⟨hz, e⟩ := find_some hg
        rcases (setK_mem Img.job _ hi.sorted z).1 hz with rfl | ⟨hz, _⟩
        · exact absurd e.symm hj
        · exact absurd e (find_none hf z hz)
    | some z =>
      obtain ⟨hz, rfl⟩ := find_some hf
      exact find_key (setK_sorted Img.job _ hi.sorted) ((setK_mem Img.job _ hi.sorted z).2 (.inr ⟨hz, hj⟩))
/-- the places behind a drop -/
theorem quiet_write0 {s : Sl} {k : Nat} (h : Quiet s) (hk : k < s.done.length) :
    ∃ s', writeL s (k : Int) [] = (s', 0) ∧ Quiet s' ∧ s'.done = s.done ∧ (∀ i, seenL s' i = if k = i then List.replicate 128 0 else seenL s i) ∧ s'.steps = s.steps + 1 ∧ s'.way.length = s.way.length + 1 := by
  obtain ⟨q1, q2⟩ := step_quiet h.arm
  have e : writeL s (k : Int) [] = ({ stepL s with way := s.way ++ [(k, List.replicate 128 0)] }, 0) := by
    unfold writeL
    rw [if_neg (by rw [hasL_zero hk (by simp) h.on]; simp), Int.toNat_natCast, q1, h.on]
    rfl
  refine ⟨_, e, ⟨by rw [← h.on, ← q1], q2, fun w hw => ?_⟩, rfl, fun i => ?_, rfl, by simp⟩
  · rcases List.mem_append.1 hw with hw | hw
    · exact h.way w hw
    · rw [List.mem_singleton] at hw; subst hw; exact hk
  · unfold seenL
    dsimp only
    rw [List.foldl_append]
    rfl
theorem drop_quiet {c : Im} {x : Img} (hi : Inv c) (hx : x ∈ c.L) : ∃ s', dropS c x = (s', 0) ∧ Quiet s' ∧ s'.done.length = c.sl.done.length ∧ s'.way = [] ∧ s'.steps = c.sl.steps + 2 ∧
    (seeG s' c.from' (x.at'.getD x.blobs.length 0)).2 ≠ 0 ∧ ∀ p, p < c.used.length → p ≠ x.at'.getD x.blobs.length 0 → seeG s' c.from' p = seeG c.sl c.from' p := by
  have hl : x.at'.length - 1 = x.blobs.length := by rw [(hi.ok x hx).at']; omega
  have hp := head_in (hi.ok x hx) (hi.inn x hx)
  have hfit := hi.fit
  have hk : c.from' + x.at'.getD x.blobs.length 0 < c.sl.done.length := by omega
  obtain ⟨s1, e1, q1, d1, v1, t1, w1⟩ := quiet_write0 hi.quiet hk
  obtain ⟨s2, e2, q2, d2, v2, t2, w2⟩ := quiet_flush q1
  have see : ∀ i, i < c.sl.done.length → seenL s2 i = if c.from' + x.at'.getD x.blobs.length 0 = i then List.replicate 128 0 else seenL c.sl i := fun i h => by rw [v2 i (by rw [d1]; exact h), v1]
  refine ⟨s2, ?_, q2, by rw [d2, d1], w2, by omega, ?_, fun p hp hne => ?_⟩
  · unfold dropS
    rw [hl, e1, thenS_ok, e2]
  · unfold seeG
    rw [getB_at (by rw [d2, d1]; exact hk) q2.on, see _ hk, if_pos rfl]
    decide +kernel
  · have hp' : c.from' + p < c.sl.done.length := by omega
    unfold seeG
    rw [getB_at (by rw [d2, d1]; exact hp') q2.on, getB_at hp' hi.quiet.on, see _ hp', if_neg (by omega)]
theorem drop_none {c : Im} {j : Nat} (hi : Inv c) (h : findI c.L j = none) : dropI c j = (c, 6) := by
  unfold dropI
  rw [if_neg (by rw [hi.up, hi.quiet.on]; simp), h]
theorem drop_some {c : Im} {j : Nat} {x : Img} (hi : Inv c) (h : findI c.L j = some x) : ∃ s', Quiet s' ∧ s'.way = [] ∧ s'.done.length = c.sl.done.length ∧ s'.steps = c.sl.steps + 2 ∧
    (seeG s' c.from' (x.at'.getD x.blobs.length 0)).2 ≠ 0 ∧ (∀ p, p < c.used.length → p ≠ x.at'.getD x.blobs.length 0 → seeG s' c.from' p = seeG c.sl c.from' p) ∧
    dropI c j = ({ c with sl := s', used := freeI c.used x.at', L := c.L.filter fun y => y.job != j }, 0) := by
  obtain ⟨hx, rfl⟩ := find_some h
  obtain ⟨s', e, q, d, w, t, h1, h2⟩ := drop_quiet hi hx
  refine ⟨s', q, w, d, t, h1, h2, ?_⟩
  unfold dropI
  rw [if_neg (by rw [hi.up, hi.quiet.on]; simp), h]
  dsimp only
  rw [e, if_neg (by simp)]
theorem find_filter : ∀ {L : List Img} {j k : Nat}, k ≠ j → findI (L.filter fun y => y.job != j) k = findI L k
  | [], _, _, _ => rfl
  | y :: L, j, k, h => by
    have ih := find_filter (L := L) h
    unfold findI at ih ⊢
    rw [List.filter_cons]
    by_cases e : y.job = j
    · rw [if_neg (by simp [e]), ih, List.find?_cons, show (y.job == k) = false by simp; omega]
    · rw [if_pos (by simpa using e), List.find?_cons, List.find?_cons, ih]
/-- the next opening tells the same of all others -/
theorem drop_find {c : Im} {x : Img} (hi : Inv c) (hx : x ∈ c.L) {G' : Nat → BlkD × Nat} (h1 : (G' (x.at'.getD x.blobs.length 0)).2 ≠ 0) (h2 : ∀ p, p < c.used.length → p ≠ x.at'.getD x.blobs.length 0 → G' p = seeG c.sl c.from' p) {j : Nat} (hj : j ≠ x.job) :
    findI (listI G' c.used.length c.used.length) j = findI c.L j := by
  have was : ∀ a, a < c.used.length → ∀ y, thereI G' c.used.length a = some y → thereI (seeG c.sl c.from') c.used.length a = some y := by
    intro a ha y hy
    refine there_congr hy ha fun p hp => ?_
    obtain ⟨hpn, h⟩ := (there_places hy ha).2 p hp
    refine (h2 p hpn fun e => h1 ?_).symm
    rw [← e]
    rcases h with rfl | h
    · exact (there_kind hy).1
    · exact h.1
  cases hf : findI c.L j with
  | none =>
    refine list_none fun a ha y hy e => ?_
    obtain ⟨k0, k1, k2, k3⟩ := there_kind (was a ha y hy)
    obtain ⟨z, hz, e1, _⟩ := hi.heads a ha k0 k1
    exact find_none hf z hz (by omega)
  | some z =>
    obtain ⟨hz, rfl⟩ := find_some hf
    have hth : thereI G' c.used.length (z.at'.getD z.blobs.length 0) = some z := there_congr (hi.there z hz) (head_in (hi.ok z hz) (hi.inn z hz)) fun p hp => h2 p (hi.inn z hz p hp) fun e => hi.apart z hz x hx hj p hp (by rw [e]; exact at_mem (hi.ok x hx) (Nat.le_refl _))
    refine list_find (head_in (hi.ok z hz) (hi.inn z hz)) hth fun a ha y hy e => ?_
    have hy' := was a ha y hy
    obtain ⟨k0, k1, k2, k3⟩ := there_kind hy'
    obtain ⟨v, hv, e1, e2⟩ := hi.heads a ha k0 k1
    have hvz := find_key hi.sorted hv
    rw [show v.job = z.job by omega, hf] at hvz
    cases hvz
    rcases e2 with e2 | e2
    · exact .inl (by omega)
    · subst e2
      rw [hi.there z hz] at hy'
      cases hy'
      exact .inr rfl
/-! one job's images -/
theorem left_none {c : Im} (hi : Inv c) (h : c.L = []) : leftM c.used = c.used.length := by
  have := left_of (m := c.used) (l := []) (by simp) (by simp) fun i hi' => by rw [hi.used i hi', h]; simp
  simpa using this
theorem left_one {c : Im} {y : Img} (hi : Inv c) (h : c.L = [y]) : leftM c.used + (y.blobs.length + 1) = c.used.length := by
  have hy : y ∈ c.L := by rw [h]; simp
  have := left_of (m := c.used) (l := y.at') (hi.ok y hy).nodup (hi.inn y hy) fun i hi' => by rw [hi.used i hi', h]; simp
  rw [(hi.ok y hy).at'] at this
  exact this
end Go.Proofs.YtoapibbbooongaaDoor
