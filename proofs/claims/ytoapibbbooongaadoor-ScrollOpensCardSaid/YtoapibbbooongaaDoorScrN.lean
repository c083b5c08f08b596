/- Plain: a root stored on a slab whose power stays is told behind it; the places of a batch. -/
import Derived.Test.YtoapibbbooongaaDoorScrM
namespace Go.Proofs.YtoapibbbooongaaDoor
open Go.RowKit Go.Quad _root_.Quad _root_.Quad.Slab _root_.Quad.Ink

theorem store_load {s : Sl} {r : RootD} (q : Quiet s) (hl : 2 ≤ s.done.length) (hok : r.Ok) (ha : r.area ≤ 1) (hp : isRoot (readB (seenL s (1 - r.turn % 2))) (1 - r.turn % 2) = true → (readB (seenL s (1 - r.turn % 2))).1.a < r.turn) :
    ∃ s', storeB s r = (s', 0) ∧ Quiet s' ∧ s'.way = [] ∧ s'.done.length = s.done.length ∧ s'.steps = s.steps + 2 ∧ loadB s' = (r, 0) ∧ (∀ i, i ≠ r.turn % 2 → i < s.done.length → seenL s' i = seenL s i) ∧ seenL s' (r.turn % 2) = encB (rootBlk r) := by
  have hk : r.turn % 2 < s.done.length := by omega
  obtain ⟨s1, e1, q1, d1, v1, t1, w1⟩ := quiet_put (x := rootBlk r) q hk (by show 1 ≤ 104; omega) (by show (1 : Nat) ≠ 0; omega)
  obtain ⟨s2, e2, q2, d2, v2, t2, w2⟩ := quiet_flush q1
  have hd : s2.done.length = s.done.length := by rw [d2, d1]
  have see : ∀ i, i < s.done.length → seenL s2 i = if r.turn % 2 = i then encB (rootBlk r) else seenL s i := fun i hi => by rw [v2 i (by rw [d1]; exact hi), v1]
  refine ⟨s2, ?_, q2, w2, hd, by omega, ?_, fun i hi hl => by rw [see i hl, if_neg (fun e => hi e.symm)], by rw [see _ hk, if_pos rfl]⟩
  · unfold storeB
    rw [if_neg (by omega), e1]
    simp only [ne_eq, not_true_eq_false, if_false]
    exact e2
  · rw [loadB_at (by omega) q2.on]
    have q := isRoot_blk hok ha
    have hs := see (r.turn % 2) hk
    rw [if_pos rfl] at hs
    have ho := see (1 - r.turn % 2) (by omega)
    rw [if_neg (by omega)] at ho
    have := load_newer (seenL s2 (r.turn % 2)) (seenL s2 (1 - r.turn % 2)) r (r.turn % 2) rfl (by rw [hs]; exact q.1) (by rw [hs]; exact q.2.1) (by rw [hs]; exact q.2.2) (by rw [ho]; exact hp)
    rcases Nat.mod_two_eq_zero_or_one r.turn with e | e
    · rw [e] at this; simpa using this
    · rw [e] at this; simpa using this
/-- no sector has a newer root than the one that is told -/
theorem load_newest {s : Sl} {r : RootD} (hl : 2 ≤ s.done.length) (ho : s.off = false) (h : loadB s = (r, 0)) : ∀ i, i < 2 → isRoot (readB (seenL s i)) i = true → (readB (seenL s i)).1.a ≤ r.turn := by
  rw [loadB_at hl ho] at h
  intro i hi hr
  unfold loadD at h
  by_cases h0 : isRoot (readB (seenL s 0)) 0 = true
  · have e0 : pickD (seenL s 0) 0 none = some (rootOf (readB (seenL s 0)).1) := by unfold pickD; rw [if_pos h0]
    rw [e0] at h
    by_cases h1 : isRoot (readB (seenL s 1)) 1 = true
    · unfold pickD at h
      rw [if_pos h1] at h
      dsimp only at h
      by_cases ht : (rootOf (readB (seenL s 0)).1).turn < (readB (seenL s 1)).1.a
      · rw [if_pos ht] at h
        cases h
        have ht : (readB (seenL s 0)).1.a < (readB (seenL s 1)).1.a := ht
        show _ ≤ (readB (seenL s 1)).1.a
        rcases (show i = 0 ∨ i = 1 by omega) with rfl | rfl <;> omega
      · rw [if_neg ht] at h
        cases h
        have ht : ¬ (readB (seenL s 0)).1.a < (readB (seenL s 1)).1.a := ht
        show _ ≤ (readB (seenL s 0)).1.a
        rcases (show i = 0 ∨ i = 1 by omega) with rfl | rfl <;> omega
    · unfold pickD at h
      rw [if_neg h1] at h
      cases h
      show _ ≤ (readB (seenL s 0)).1.a
      rcases (show i = 0 ∨ i = 1 by omega) with rfl | rfl
      · omega
      · exact absurd hr h1
  · have e0 : pickD (seenL s 0) 0 none = none := by unfold pickD; rw [if_neg h0]
    rw [e0] at h
    by_cases h1 : isRoot (readB (seenL s 1)) 1 = true
    · unfold pickD at h
      rw [if_pos h1] at h
      cases h
      show _ ≤ (readB (seenL s 1)).1.a
      rcases (show i = 0 ∨ i = 1 by omega) with rfl | rfl
      · exact absurd hr h0
      · omega
    · rcases (show i = 0 ∨ i = 1 by omega) with rfl | rfl
      · exact absurd hr h0
      · exact absurd hr h1
/-- the next root -/
theorem store_next {s : Sl} {r r' : RootD} (q : Quiet s) (hl : 2 ≤ s.done.length) (h : loadB s = (r, 0)) (ht : r'.turn = r.turn + 1) (hok : r'.Ok) (ha : r'.area ≤ 1) :
    ∃ s', storeB s r' = (s', 0) ∧ Quiet s' ∧ s'.way = [] ∧ s'.done.length = s.done.length ∧ s'.steps = s.steps + 2 ∧ loadB s' = (r', 0) ∧ (∀ i, i ≠ r'.turn % 2 → i < s.done.length → seenL s' i = seenL s i) ∧ seenL s' (r'.turn % 2) = encB (rootBlk r') :=
  store_load q hl hok ha fun hr => by have := load_newest hl q.on h (1 - r'.turn % 2) (by omega) hr; omega
/-! a batch that is put on a slab whose power stays -/
theorem partB_len (r : RootD) (a : Nat) (p : Bytes) (i : Nat) : (partB r a p i).data.length ≤ 104 := by
  show (partP p i).length ≤ 104
  rw [partP_len]; omega
theorem partB_kind (r : RootD) (a : Nat) (p : Bytes) (i : Nat) : (partB r a p i).kind ≠ 0 := by
  show (if _ then 3 else 2) ≠ 0
  split <;> omega
theorem areaN_add (size area a k : Nat) : areaN size area (a + k) = areaN size area a + k := by unfold areaN; omega
theorem pp_quiet {s : Sl} {size : Nat} {r : RootD} {a : Nat} {p : Bytes} (q : Quiet s) (hin : areaN size r.area a + npart p.length ≤ s.done.length) : ∀ k, k ≤ npart p.length →
    ∃ s', putParts s size r a p k = (s', 0) ∧ Quiet s' ∧ s'.done = s.done ∧ s'.steps = s.steps + k ∧ s'.way.length = s.way.length + k ∧
      (∀ i, i < k → seenL s' (areaN size r.area a + i) = encB (partB r a p i)) ∧ ∀ i, (i < areaN size r.area a ∨ areaN size r.area a + k ≤ i) → seenL s' i = seenL s i
  | 0, _ => ⟨s, rfl, q, rfl, rfl, rfl, fun i hi => by omega, fun _ _ => rfl⟩
  | k + 1, hk => by
    obtain ⟨s1, e1, q1, d1, t1, w1, b1, o1⟩ := pp_quiet q hin k (by omega)
    obtain ⟨s2, e2, q2, d2, v2, t2, w2⟩ := quiet_put (x := partB r a p k) q1 (k := areaN size r.area (a + k)) (by rw [areaN_add, d1]; omega) (partB_len _ _ _ _) (partB_kind _ _ _ _)
    refine ⟨s2, ?_, q2, by rw [d2, d1], by omega, by omega, fun i hi => ?_, fun i hi => ?_⟩
    · show thenS (putParts s size r a p k) _ = _
      rw [e1]
      exact e2
    · rw [v2, areaN_add]
      rcases Nat.lt_or_ge i k with h | h
      · rw [if_neg (by omega), b1 i h]
      · obtain rfl : i = k := by omega
        rw [if_pos rfl]
    · rw [v2, areaN_add, if_neg (by omega), o1 i (by omega)]
theorem putS_quiet {s : Sl} {size : Nat} {r : RootD} {a : Nat} {p : Bytes} (q : Quiet s) (hin : areaN size r.area a + npart p.length ≤ s.done.length) :
    ∃ s', putS s size r a p = (s', 0) ∧ Quiet s' ∧ s'.way = [] ∧ s'.done.length = s.done.length ∧ s'.steps = s.steps + npart p.length + 1 ∧
      (∀ i, i < npart p.length → seenL s' (areaN size r.area a + i) = encB (partB r a p i)) ∧ ∀ i, i < s.done.length → (i < areaN size r.area a ∨ areaN size r.area a + npart p.length ≤ i) → seenL s' i = seenL s i := by
  obtain ⟨s1, e1, q1, d1, t1, w1, b1, o1⟩ := pp_quiet q hin _ (Nat.le_refl _)
  obtain ⟨s2, e2, q2, d2, v2, t2, w2⟩ := quiet_flush q1
  refine ⟨s2, ?_, q2, w2, by rw [d2, d1], by omega, fun i hi => ?_, fun i hl hi => ?_⟩
  · unfold putS
    rw [e1]
    exact e2
  · rw [v2 _ (by rw [d1]; omega), b1 i hi]
  · rw [v2 i (by rw [d1]; exact hl), o1 i hi]
theorem put_at {s' : Sl} {size : Nat} {r : RootD} {a : Nat} {l : List Bytes} (q : Quiet s') (hr : r.Ok) (hin : areaN size r.area a + partsL l ≤ s'.done.length) (ha : a + partsL l ≤ 4096) (h : ∀ i, i < partsL l → seenL s' (areaN size r.area a + i) = encB (partB r a (joinL l) i)) :
    AtB (seeA s' size r.area) r.gen a r.epoch l := fun i hi => by
  unfold seeA
  rw [areaN_add, getB_at (by omega) q.on, h i hi]
  exact readB_enc (x := partB r a (joinL l) i) ⟨by show (if _ then 3 else 2) < 256; split <;> omega, hr.epoch, hr.gen, by show a + i < 4294967296; omega⟩ (partB_kind _ _ _ _) (partB_len _ _ _ _)
theorem see_keep {s s' : Sl} {size area k : Nat} (q : Quiet s) (q' : Quiet s') (hl : s'.done.length = s.done.length) (hk : areaN size area k < s.done.length) (h : seenL s' (areaN size area k) = seenL s (areaN size area k)) : seeA s' size area k = seeA s size area k := by
  unfold seeA
  rw [getB_at (by rw [hl]; exact hk) q'.on, getB_at hk q.on, h]
/-! what lies on a slab that has a scroll: its root, the batches of its area -/
structure Dk (s : Sl) (size : Nat) (r : RootD) (bs : List Bat) : Prop where
  q : Quiet s
  len : 2 + 2 * size ≤ s.done.length ∧ s.done.length ≤ 9000
  sz : 1 ≤ size ∧ size ≤ 4096
  root : loadB s = (r, 0)
  ok : r.Ok
  area : r.area ≤ 1
  st : Stands (seeA s size r.area) r.gen bs 0
  rise : Rises 0 bs ∧ lastE 0 bs ≤ r.epoch
  fit : lenB bs ≤ size
  small : ∀ b ∈ bs, ∀ t ∈ b.2, t.length < 18446744073709551616
  first : ∃ e p bs', bs = (e, [p]) :: bs'
  free : ∀ i, lenB bs ≤ i → i < size → StopsAt (seeA s size r.area) r.gen i
  old : ∀ area, area ≤ 1 → ∀ i, i < size → (seeA s size area i).2 ≠ 0 ∨ (seeA s size area i).1.a ≤ r.gen
theorem Dk.read {s : Sl} {size : Nat} {r : RootD} {bs : List Bat} (h : Dk s size r bs) : readS s size r = ⟨lenB bs, lastE 0 bs, [], bs.map Prod.snd⟩ := by
  have := read_all (G := seeA s size r.area) (gen := r.gen) bs 0 0 [] (size - lenB bs) h.st h.rise.1 h.small (fun _ b hb => by
    obtain ⟨e, p, bs', rfl⟩ := h.first
    cases hb
    rfl) (by
    rcases Nat.lt_or_ge (lenB bs) size with h1 | h1
    · exact .inr (by rw [Nat.zero_add]; exact h.free _ (Nat.le_refl _) h1)
    · exact .inl (by omega))
  rw [show lenB bs + (size - lenB bs) = size from by have := h.fit; omega] at this
  simpa [readS, readG] using this
theorem area_lt {size area k n : Nat} (ha : area ≤ 1) (hk : k < size) (hn : 2 + 2 * size ≤ n) : areaN size area k < n ∧ 2 ≤ areaN size area k := by
  unfold areaN
  rcases (show area = 0 ∨ area = 1 by omega) with rfl | rfl <;> omega
theorem lastE_mono {bs : List Bat} {r : RootD} (h : lastE 0 bs ≤ r.epoch) : lastE 0 bs ≤ r.epoch + 1 := Nat.le_succ_of_le h
/-- opened -/
theorem Dk.open' {s : Sl} {size : Nat} {r : RootD} {bs : List Bat} (h : Dk s size r bs) (he : r.epoch ≠ 4294967295) (ht : r.turn ≠ 4294967295) :
    ∃ s', openS s (size : Int) = (s', some ⟨s', size, nextR r, lenB bs, ((bs.map Prod.snd).headD []).headD [], ((bs.map Prod.snd).drop 1).flatten, false⟩, 0) ∧ Dk s' size (nextR r) bs ∧ s'.way = [] ∧ s'.done.length = s.done.length ∧ s'.steps = s.steps + 2 := by
  have hok : (nextR r).Ok := ⟨by show r.turn + 1 < _; have := h.ok.turn; omega, by show r.epoch + 1 < _; have := h.ok.epoch; omega, h.ok.gen, h.ok.area⟩
  obtain ⟨s', e1, q', w', d', t', l', v', _⟩ := store_next h.q (by have := h.len; omega) h.root (r' := nextR r) rfl hok h.area
  have keep : ∀ area, area ≤ 1 → ∀ k, k < size → seeA s' size area k = seeA s size area k := fun area ha k hk => by
    have := area_lt ha hk h.len.1
    exact see_keep h.q q' d' this.1 (v' _ (by omega) this.1)
  refine ⟨s', ?_, ⟨q', by rw [d']; exact h.len, h.sz, l', hok, h.area, ?_, ⟨h.rise.1, Nat.le_succ_of_le h.rise.2⟩, h.fit, h.small, h.first, fun i h1 h2 => ?_, fun area ha i hi => ?_⟩, w', d', t'⟩
  · unfold openS
    have hf : fitsS s (size : Int) = 0 := by
      unfold fitsS
      rw [if_neg (by have := h.len; have := h.sz; omega)]
    rw [hf, if_neg (by simp), h.root, if_neg (by simp), Int.toNat_natCast, h.read, if_neg (by
      obtain ⟨e, p, bs', rfl⟩ := h.first
      simp), if_neg (show ¬ (r.epoch = 4294967295 ∨ r.turn = 4294967295) by omega), e1, if_neg (by simp)]
  · exact h.st.keep fun i _ hi => keep _ h.area i (by have := h.fit; omega)
  · have := h.free i h1 h2
    unfold StopsAt at this ⊢
    show (seeA s' size r.area i).2 ≠ 0 ∨ (seeA s' size r.area i).1.a ≠ r.gen
    rw [keep _ h.area i h2]
    exact this
  · rw [keep _ ha i hi]
    exact h.old area ha i hi
/-- a batch behind the others -/
theorem Dk.add {s : Sl} {size : Nat} {r : RootD} {bs : List Bat} (h : Dk s size r bs) {l : List Bytes} (hs : ∀ t ∈ l, t.length < 18446744073709551616) (hfit : lenB bs + partsL l ≤ size) :
    ∃ s', putS s size r (lenB bs) (joinL l) = (s', 0) ∧ Dk s' size r (bs ++ [(r.epoch, l)]) ∧ s'.way = [] ∧ s'.done.length = s.done.length ∧ s'.steps = s.steps + partsL l + 1 := by
  have hp : 1 ≤ partsL l := npart_pos _
  have hin : areaN size r.area (lenB bs) + partsL l ≤ s.done.length := by
    have := area_lt h.area (show lenB bs + partsL l - 1 < size by omega) h.len.1
    have e := areaN_add size r.area (lenB bs) (partsL l - 1)
    rw [show lenB bs + (partsL l - 1) = lenB bs + partsL l - 1 from by omega] at e
    omega
  obtain ⟨s', e1, q', w', d', t', b', o'⟩ := putS_quiet (p := joinL l) h.q hin
  have hat : AtB (seeA s' size r.area) r.gen (lenB bs) r.epoch l := put_at q' h.ok (by rw [d']; exact hin) (by have := h.sz; omega) b'
  have keep : ∀ area, area ≤ 1 → ∀ k, k < size → (area = r.area → k < lenB bs ∨ lenB bs + partsL l ≤ k) → seeA s' size area k = seeA s size area k := fun area ha k hk hne => by
    have hk2 := area_lt ha hk h.len.1
    refine see_keep h.q q' d' hk2.1 (o' _ hk2.1 ?_)
    show areaN size area k < areaN size r.area (lenB bs) ∨ areaN size r.area (lenB bs) + partsL l ≤ areaN size area k
    have hra := h.area
    unfold areaN
    rcases (show area = 0 ∨ area = 1 by omega) with rfl | rfl <;> rcases (show r.area = 0 ∨ r.area = 1 by omega) with e | e <;> rw [e] at hne ⊢ <;> simp at hne <;> omega
  have hl : loadB s' = (r, 0) := by
    rw [loadB_at (by rw [d']; have := h.len; omega) q'.on, o' 0 (by have := h.len; omega) (.inl (by unfold areaN; omega)), o' 1 (by have := h.len; omega) (.inl (by unfold areaN; omega)), ← loadB_at (by have := h.len; omega) h.q.on]
    exact h.root
  refine ⟨s', e1, ⟨q', by rw [d']; exact h.len, h.sz, hl, h.ok, h.area, ?_, ⟨h.rise.1.snoc h.rise.2, by rw [lastE_snoc]; exact Nat.le_refl _⟩, ?_, fun b hb => ?_, ?_, fun i h1 h2 => ?_, fun area ha i hi => ?_⟩, w', d', t'⟩
  · exact (h.st.keep fun i _ hi => keep _ h.area i (by omega) fun _ => .inl (by omega)).snoc (by rw [Nat.zero_add]; exact hat)
  · rw [lenB_append]; show lenB bs + (partsL l + 0) ≤ size; omega
  · rcases List.mem_append.1 hb with hb | hb
    · exact h.small b hb
    · rw [List.mem_singleton] at hb; subst hb; exact hs
  · obtain ⟨e, p, bs', rfl⟩ := h.first
    exact ⟨e, p, bs' ++ [(r.epoch, l)], rfl⟩
  · rw [lenB_append] at h1
    have h1 : lenB bs + (partsL l + 0) ≤ i := h1
    have := h.free i (by omega) h2
    unfold StopsAt at this ⊢
    rw [keep _ h.area i h2 fun _ => .inr (by omega)]
    exact this
  · by_cases hc : area = r.area → i < lenB bs ∨ lenB bs + partsL l ≤ i
    · rw [keep _ ha i hi hc]
      exact h.old area ha i hi
    · have e : area = r.area := Classical.byContradiction fun hne => hc fun h => absurd h hne
      subst e
      have hi2 : lenB bs ≤ i ∧ i < lenB bs + partsL l := by
        constructor <;> (apply Classical.byContradiction; intro hh; exact hc fun _ => by omega)
      have := hat (i - lenB bs) (by omega)
      rw [show lenB bs + (i - lenB bs) = i from by omega] at this
      rw [this]
      exact .inr (Nat.le_refl _)
/-- a snapshot alone -/
theorem Dk.comp {s : Sl} {size : Nat} {r : RootD} {bs : List Bat} (h : Dk s size r bs) {p : Bytes} (hs : p.length < 18446744073709551616) (hfit : partsL [p] ≤ size) (hg : r.gen ≠ 4294967295) (ht : r.turn ≠ 4294967295) :
    ∃ s1 s', putS s size (turnR r) 0 (joinL [p]) = (s1, 0) ∧ storeB s1 (turnR r) = (s', 0) ∧ Dk s' size (turnR r) [(r.epoch, [p])] ∧ s'.way = [] ∧ s'.done.length = s.done.length ∧ s'.steps = s.steps + partsL [p] + 3 := by
  have hp : 1 ≤ partsL [p] := npart_pos _
  have hok : (turnR r).Ok := ⟨by show r.turn + 1 < _; have := h.ok.turn; omega, h.ok.epoch, by show r.gen + 1 < _; have := h.ok.gen; omega, by show 1 - r.area < 256; omega⟩
  have har : (turnR r).area ≤ 1 := by show 1 - r.area ≤ 1; omega
  have hin : areaN size (turnR r).area 0 + partsL [p] ≤ s.done.length := by
    have := area_lt har (show partsL [p] - 1 < size by omega) h.len.1
    have e := areaN_add size (turnR r).area 0 (partsL [p] - 1)
    rw [Nat.zero_add] at e
    omega
  obtain ⟨s1, e1, q1, w1, d1, t1, b1, o1⟩ := putS_quiet (p := joinL [p]) h.q hin
  have hl1 : loadB s1 = (r, 0) := by
    rw [loadB_at (by rw [d1]; have := h.len; omega) q1.on, o1 0 (by have := h.len; omega) (.inl (by unfold areaN; omega)), o1 1 (by have := h.len; omega) (.inl (by unfold areaN; omega)), ← loadB_at (by have := h.len; omega) h.q.on]
    exact h.root
  obtain ⟨s', e2, q', w', d', t', l', v', _⟩ := store_next q1 (by rw [d1]; have := h.len; omega) hl1 (r' := turnR r) rfl hok har
  have hd : s'.done.length = s.done.length := by rw [d', d1]
  have see : ∀ i, 2 ≤ i → i < s.done.length → seenL s' i = seenL s1 i := fun i h1 h2 => v' i (by omega) (by rw [d1]; exact h2)
  have hat : AtB (seeA s' size (turnR r).area) (turnR r).gen 0 (turnR r).epoch [p] := put_at q' hok (by rw [hd]; exact hin) (by have := h.sz; omega) fun i hi => by
    rw [see _ (by unfold areaN; omega) (by omega)]
    exact b1 i hi
  have keep : ∀ area, area ≤ 1 → ∀ k, k < size → (area = (turnR r).area → partsL [p] ≤ k) → seeA s' size area k = seeA s size area k := fun area ha k hk hne => by
    have hk2 := area_lt ha hk h.len.1
    refine see_keep h.q q' hd hk2.1 ((see _ hk2.2 hk2.1).trans (o1 _ hk2.1 ?_))
    show areaN size area k < areaN size (turnR r).area 0 ∨ areaN size (turnR r).area 0 + partsL [p] ≤ areaN size area k
    generalize (turnR r).area = ar at hne har
    unfold areaN
    rcases (show area = 0 ∨ area = 1 by omega) with rfl | rfl <;> rcases (show ar = 0 ∨ ar = 1 by omega) with rfl | rfl <;> simp at hne <;> omega
  refine ⟨s1, s', e1, e2, ⟨q', by rw [hd]; exact h.len, h.sz, l', hok, har, ⟨hat, trivial⟩, ⟨⟨Nat.zero_le _, trivial⟩, Nat.le_refl _⟩, ?_, fun b hb => ?_, ⟨_, _, _, rfl⟩, fun i h1 h2 => ?_, fun area ha i hi => ?_⟩, w', hd, by have : npart (joinL [p]).length = partsL [p] := rfl; omega⟩
  · show partsL [p] + 0 ≤ size; omega
  · rw [List.mem_singleton] at hb; subst hb
    intro t ht
    have ht : t ∈ [p] := ht
    rw [List.mem_singleton] at ht; subst ht; exact hs
  · have h1 : partsL [p] + 0 ≤ i := h1
    unfold StopsAt
    rw [keep _ har i h2 fun _ => by omega]
    rcases h.old _ har i h2 with h3 | h3
    · exact .inl h3
    · exact .inr (by show _ ≠ r.gen + 1; omega)
  · by_cases hc : area = (turnR r).area → partsL [p] ≤ i
    · rw [keep _ ha i hi hc]
      rcases h.old area ha i hi with h3 | h3
      · exact .inl h3
      · exact .inr (Nat.le_succ_of_le h3)
    · have e : area = (turnR r).area := Classical.byContradiction fun hne => hc fun h => absurd h hne
      subst e
      have hi2 : i < partsL [p] := by apply Classical.byContradiction; intro hh; exact hc fun _ => by omega
      have := hat i hi2
      rw [Nat.zero_add] at this
      rw [this]
      exact .inr (Nat.le_refl _)
theorem new_seen {n i : Nat} (h : i < n) : seenL (newL n) i = List.replicate 128 0 := by
  unfold seenL newL
  dsimp only [List.foldl_nil]
  rw [List.getD_eq_getElem?_getD, List.getElem?_replicate_of_lt h]
  rfl
/-- a new scroll -/
theorem dk_format {n size : Nat} {p : Bytes} (hn : 2 + 2 * size ≤ n) (hn2 : n ≤ 9000) (hz : 1 ≤ size ∧ size ≤ 4096) (hs : p.length < 18446744073709551616) (hfit : partsL [p] ≤ size) :
    ∃ s1 s', putS (newL n) size ⟨1, 0, 1, 0⟩ 0 (joinL [p]) = (s1, 0) ∧ storeB s1 ⟨1, 0, 1, 0⟩ = (s', 0) ∧ formatS (newL n) (size : Int) p = (s', 0) ∧ Dk s' size ⟨1, 0, 1, 0⟩ [(0, [p])] ∧ s'.way = [] ∧ s'.done.length = n ∧ s'.steps = partsL [p] + 3 := by
  have hlen : (newL n).done.length = n := by simp [newL]
  have hok : (RootD.mk 1 0 1 0).Ok := ⟨by show 1 < 4294967296; omega, by show 0 < 4294967296; omega, by show 1 < 4294967296; omega, by show 0 < 256; omega⟩
  have hin : areaN size (RootD.mk 1 0 1 0).area 0 + partsL [p] ≤ (newL n).done.length := by
    rw [hlen]
    show 2 + 0 * size + 0 + _ ≤ n
    omega
  obtain ⟨s1, e1, q1, w1, d1, t1, b1, o1⟩ := putS_quiet (p := joinL [p]) (new_quiet n) hin
  have hz0 : seenL s1 0 = List.replicate 128 0 := by
    rw [o1 0 (by omega) (.inl (by unfold areaN; omega)), new_seen (by omega)]
  obtain ⟨s', e2, q', w', d', t', l', v', _⟩ := store_load (r := ⟨1, 0, 1, 0⟩) q1 (by omega) hok (by show 0 ≤ 1; omega) (by
    intro hh
    have e : seenL s1 (1 - (RootD.mk 1 0 1 0).turn % 2) = List.replicate 128 0 := hz0
    rw [e, readB_zero] at hh
    exact absurd (isRoot_parts hh).1 (by show ¬ ((6 : Nat) = 0); decide))
  have hd : s'.done.length = n := by rw [d', d1, hlen]
  have see : ∀ i, 2 ≤ i → i < n → seenL s' i = seenL s1 i := fun i h1 h2 => v' i (by show i ≠ 1 % 2; omega) (by omega)
  have hat : AtB (seeA s' size 0) 1 0 0 [p] := put_at (r := ⟨1, 0, 1, 0⟩) q' hok (by rw [hd]; omega) (by omega) fun i hi => by
    rw [see _ (by unfold areaN; omega) (by omega)]
    exact b1 i hi
  have none : ∀ area, area ≤ 1 → ∀ k, k < size → (area = 0 → partsL [p] ≤ k) → (seeA s' size area k).2 ≠ 0 := fun area ha k hk hne => by
    have hk2 := area_lt ha hk hn
    unfold seeA
    rw [getB_at (by omega) q'.on, see _ hk2.2 hk2.1, o1 _ (by omega) (by
      show areaN size area k < areaN size 0 0 ∨ areaN size 0 0 + partsL [p] ≤ areaN size area k
      unfold areaN
      rcases (show area = 0 ∨ area = 1 by omega) with rfl | rfl <;> simp at hne <;> omega), new_seen hk2.1, readB_zero]
    show (6 : Nat) ≠ 0
    decide
  refine ⟨s1, s', e1, e2, ?_, ⟨q', by omega, hz, l', hok, by show 0 ≤ 1; omega, ⟨hat, trivial⟩, ⟨⟨Nat.zero_le _, trivial⟩, Nat.le_refl _⟩, ?_, fun b hb => ?_, ⟨_, _, _, rfl⟩, fun i h1 h2 => ?_, fun area ha i hi => ?_⟩, w', hd, by have h1 : (newL n).steps = 0 := rfl; have h2 : npart (joinL [p]).length = partsL [p] := rfl; omega⟩
  · unfold formatS
    have hf : fitsS (newL n) (size : Int) = 0 := by unfold fitsS; rw [if_neg (by omega)]
    rw [hf, if_neg (by simp), if_neg (by omega), Int.toNat_natCast, e1, thenS_ok]
    exact e2
  · show partsL [p] + 0 ≤ size; omega
  · rw [List.mem_singleton] at hb; subst hb
    intro t ht
    have ht : t ∈ [p] := ht
    rw [List.mem_singleton] at ht; subst ht; exact hs
  · have h1 : partsL [p] + 0 ≤ i := h1
    exact .inl (none 0 (by omega) i h2 fun _ => by omega)
  · by_cases hc : area = 0 → partsL [p] ≤ i
    · exact .inl (none area ha i hi hc)
    · have e : area = 0 := Classical.byContradiction fun hne => hc fun h => absurd h hne
      subst e
      have hi2 : i < partsL [p] := by apply Classical.byContradiction; intro hh; exact hc fun _ => by omega
      have := hat i hi2
      rw [Nat.zero_add] at this
      rw [this]
      exact .inr (Nat.le_refl _)
end Go.Proofs.YtoapibbbooongaaDoor
