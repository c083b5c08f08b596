/- Plain: a root changes whole. -/
import Derived.Test.YtoapibbbooongaaDoorBlkMath
namespace Go.Proofs.YtoapibbbooongaaDoor
open Go.RowKit Go.Quad _root_.Quad _root_.Quad.Slab

def pickD (d : List UInt8) (i : Nat) (best : Option RootD) : Option RootD :=
  if isRoot (readB d) i then (match best with | none => some (rootOf (readB d).1) | some r => if r.turn < (readB d).1.a then some (rootOf (readB d).1) else some r) else best
def loadD (d0 d1 : List UInt8) : RootD × Nat := match pickD d1 1 (pickD d0 0 none) with | none => (rootZ, 4) | some r => (r, 0)

theorem hasL_zero {s : Sl} {k n : Nat} (hk : k < s.done.length) (hn : n ≤ 128) (ho : s.off = false) : hasL s (k : Int) n = 0 := by
  unfold hasL
  rw [if_neg (by omega), if_neg (by omega), ho]
  simp
theorem readL_at {s : Sl} {i : Nat} (hi : i < s.done.length) (ho : s.off = false) : readL s (i : Int) = (seenL s i, 0) := by
  unfold readL
  rw [hasL_zero hi (by omega) ho]
  simp
theorem getB_at {s : Sl} {i : Nat} (hi : i < s.done.length) (ho : s.off = false) : getB s (i : Int) = readB (seenL s i) := by
  unfold getB
  rw [readL_at hi ho]
  simp
theorem loadB_at {s : Sl} (hl : 2 ≤ s.done.length) (ho : s.off = false) : loadB s = loadD (seenL s 0) (seenL s 1) := by
  have r0 := readL_at (s := s) (i := 0) (by omega) ho
  have r1 := readL_at (s := s) (i := 1) (by omega) ho
  have g0 := getB_at (s := s) (i := 0) (by omega) ho
  have g1 := getB_at (s := s) (i := 1) (by omega) ho
  have e0 : (((0 : Nat) : Int)) = 0 := rfl
  have e1 : (((1 : Nat) : Int)) = 1 := rfl
  rw [e0] at r0 g0
  rw [e1] at r1 g1
  unfold loadB
  rw [r0, r1]
  simp only [ne_eq, not_true_eq_false, if_false]
  unfold loadD stepR pickD
  rw [e0, e1, g0, g1]
  rfl

theorem isRoot_blk {r : RootD} (hr : r.Ok) (ha : r.area ≤ 1) : isRoot (readB (encB (rootBlk r))) (r.turn % 2) = true ∧ rootOf (readB (encB (rootBlk r))).1 = r ∧ (readB (encB (rootBlk r))).1.a = r.turn := by
  have ho : (rootBlk r).Ok := ⟨by show 1 < 256; omega, hr.epoch, hr.turn, hr.gen⟩
  rw [readB_enc ho (by show (1 : Nat) ≠ 0; omega) (by show 1 ≤ 104; omega)]
  have h1 : (UInt8.ofNat r.area).toNat = r.area := by rw [UInt8.toNat_ofNat']; omega
  refine ⟨?_, ?_, rfl⟩
  · unfold isRoot
    show (decide ((0 : Nat) = 0) && decide ((1 : Nat) = 1) && decide ((1 : Nat) = 1) && decide ((UInt8.ofNat r.area).toNat ≤ 1) && decide (r.turn % 2 = r.turn % 2)) = true
    rw [h1]
    simp [ha]
  · unfold rootOf
    show RootD.mk r.turn r.epoch r.gen (UInt8.ofNat r.area).toNat = r
    rw [h1]

theorem isRoot_parts {x : BlkD × Nat} {i : Nat} (h : isRoot x i = true) : x.2 = 0 ∧ x.1.data.length = 1 ∧ x.1.a % 2 = i := by
  unfold isRoot at h
  simp only [Bool.and_eq_true, decide_eq_true_eq] at h
  exact ⟨h.1.1.1.1, h.1.1.2, h.2⟩

/-- one sector has the last root; whatever the other one has, that root is told, or what the other says -/
theorem load_whole (d p : List UInt8) (r : RootD) (k : Nat) (hk : k = r.turn % 2) (hd : isRoot (readB d) k = true) (hr : rootOf (readB d).1 = r) (hda : (readB d).1.a = r.turn) :
    ((if k = 0 then loadD d p else loadD p d) = (r, 0)) ∨ ((readB p).2 = 0 ∧ (readB p).1.data.length = 1 ∧ (if k = 0 then loadD d p else loadD p d) = (rootOf (readB p).1, 0)) := by
  have hk2 : k = 0 ∨ k = 1 := by omega
  rcases hk2 with rfl | rfl
  · rw [if_pos rfl]
    unfold loadD
    have e0 : pickD d 0 none = some r := by unfold pickD; rw [if_pos hd, hr]
    rw [e0]
    unfold pickD
    by_cases hp : isRoot (readB p) 1 = true
    · rw [if_pos hp]
      dsimp only
      by_cases ht : r.turn < (readB p).1.a
      · rw [if_pos ht]
        exact .inr ⟨(isRoot_parts hp).1, (isRoot_parts hp).2.1, rfl⟩
      · rw [if_neg ht]; exact .inl rfl
    · rw [if_neg hp]; exact .inl rfl
  · rw [if_neg (by omega)]
    unfold loadD
    by_cases hp : isRoot (readB p) 0 = true
    · have e0 : pickD p 0 none = some (rootOf (readB p).1) := by unfold pickD; rw [if_pos hp]
      rw [e0]
      unfold pickD
      rw [if_pos hd]
      dsimp only
      by_cases ht : (rootOf (readB p).1).turn < (readB d).1.a
      · rw [if_pos ht, hr]; exact .inl rfl
      · rw [if_neg ht]; exact .inr ⟨(isRoot_parts hp).1, (isRoot_parts hp).2.1, rfl⟩
    · have e0 : pickD p 0 none = none := by unfold pickD; rw [if_neg hp]
      rw [e0]
      unfold pickD
      rw [if_pos hd]
      dsimp only
      rw [hr]
      exact .inl rfl
/-- the newer root is told -/
theorem load_newer (d p : List UInt8) (r : RootD) (k : Nat) (hk : k = r.turn % 2) (hd : isRoot (readB d) k = true) (hr : rootOf (readB d).1 = r) (hda : (readB d).1.a = r.turn)
    (hp : isRoot (readB p) (1 - k) = true → (readB p).1.a < r.turn) : (if k = 0 then loadD d p else loadD p d) = (r, 0) := by
  have hk2 : k = 0 ∨ k = 1 := by omega
  rcases hk2 with rfl | rfl
  · rw [if_pos rfl]
    unfold loadD
    have e0 : pickD d 0 none = some r := by unfold pickD; rw [if_pos hd, hr]
    rw [e0]
    unfold pickD
    by_cases h : isRoot (readB p) 1 = true
    · rw [if_pos h]
      dsimp only
      rw [if_neg (by have := hp h; omega)]
    · rw [if_neg h]
  · rw [if_neg (by omega)]
    unfold loadD
    by_cases h : isRoot (readB p) 0 = true
    · have e0 : pickD p 0 none = some (rootOf (readB p).1) := by unfold pickD; rw [if_pos h]
      rw [e0]
      unfold pickD
      rw [if_pos hd]
      dsimp only
      rw [if_pos (by have := hp h; show (readB p).1.a < (readB d).1.a; omega), hr]
    · have e0 : pickD p 0 none = none := by unfold pickD; rw [if_neg h]
      rw [e0]
      unfold pickD
      rw [if_pos hd]
      dsimp only
      rw [hr]

/-! ### roots stored one behind the other on two sectors -/
structure Rt (s : Sl) (i : Nat) (r : RootD) : Prop where
  len : s.done.length = 2
  sec : ∀ p ∈ s.done, p.length = 128
  way : s.way = []
  off : s.off = false
  armed : s.armed = 0
  turn : r.turn = i
  ok : r.Ok
  area : r.area ≤ 1
  here : s.done.getD (i % 2) [] = encB (rootBlk r)
  other : isRoot (readB (s.done.getD (1 - i % 2) [])) (1 - i % 2) = true → (readB (s.done.getD (1 - i % 2) [])).1.a < i

theorem seen_nil {s : Sl} (h : s.way = []) (i : Nat) : seenL s i = s.done.getD i [] := by unfold seenL; rw [h]; rfl
theorem Rt.load {s : Sl} {i : Nat} {r : RootD} (h : Rt s i r) : loadB s = (r, 0) := by
  rw [loadB_at (by rw [h.len]; exact Nat.le_refl _) h.off, seen_nil h.way, seen_nil h.way]
  have q := isRoot_blk h.ok h.area
  rw [← h.here, h.turn] at q
  have := load_newer (s.done.getD (i % 2) []) (s.done.getD (1 - i % 2) []) r (i % 2) (by rw [h.turn]) q.1 q.2.1 (by rw [h.turn]; exact q.2.2) (by rw [h.turn]; exact h.other)
  rcases Nat.mod_two_eq_zero_or_one i with e | e
  · rw [e] at this; simpa using this
  · rw [e] at this; simpa using this

theorem rootBlk_len (r : RootD) : (encB (rootBlk r)).length = 128 := encB_length (by show 1 ≤ 110; omega)
theorem pad_full {t : List UInt8} (h : t.length = 128) : pad t = t := by unfold pad; rw [h]; simp
theorem putB_root {s : Sl} {r : RootD} (hl : s.done.length = 2) (ho : s.off = false) (hw : s.way = []) :
    putB s ((r.turn % 2 : Nat) : Int) (rootBlk r) = ({ stepL s with way := [(r.turn % 2, encB (rootBlk r))] }, if (stepL s).off then 13 else 0) := by
  have hk : r.turn % 2 < s.done.length := by omega
  unfold putB
  rw [if_neg (by omega), if_neg (by show ¬ (104 < 1); omega), if_neg (by show ¬ (1 = 0); omega)]
  unfold writeL
  rw [hasL_zero hk (by rw [rootBlk_len]; exact Nat.le_refl _) ho]
  simp only [ne_eq, not_true_eq_false, if_false, Int.toNat_natCast]
  rw [pad_full (rootBlk_len r)]
  rw [hw]
  rfl

/-- what storing the next root leaves -/
def afterR (s : Sl) (r : RootD) : Sl := { stepL (stepL s) with done := s.done.set (r.turn % 2) (encB (rootBlk r)), way := [] }
theorem step_quiet {s : Sl} (ha : s.armed = 0) : (stepL s).off = s.off ∧ (stepL s).armed = 0 := by
  unfold stepL
  dsimp only
  rw [ha]
  exact ⟨rfl, rfl⟩
theorem storeB_quiet {s : Sl} {r : RootD} (hl : s.done.length = 2) (ho : s.off = false) (hw : s.way = []) (ha : s.armed = 0) (har : r.area ≤ 1) : storeB s r = (afterR s r, 0) := by
  unfold storeB
  have q := step_quiet ha
  have e := putB_root (r := r) hl ho hw
  rw [q.1, ho] at e
  rw [e, if_neg (by omega)]
  simp only [Bool.false_eq_true, if_false, ne_eq, not_true_eq_false]
  unfold flushL
  have o1 : ({ stepL s with way := [(r.turn % 2, encB (rootBlk r))] } : Sl).off = false := q.1.trans ho
  have a1 : ({ stepL s with way := [(r.turn % 2, encB (rootBlk r))] } : Sl).armed = 0 := q.2
  have q2 := step_quiet a1
  rw [if_neg (by rw [o1]; simp), if_neg (by rw [q2.1, o1]; simp)]
  rfl
theorem storeB_rt {s : Sl} {i : Nat} {r r' : RootD} (h : Rt s i r) (ht : r'.turn = i + 1) (hok : r'.Ok) (har : r'.area ≤ 1) : storeB s r' = (afterR s r', 0) ∧ Rt (afterR s r') (i + 1) r' := by
  refine ⟨storeB_quiet h.len h.off h.way h.armed har, ?_⟩
  have q := step_quiet h.armed
  have q2 := step_quiet q.2
  have hk : (i + 1) % 2 = 1 - i % 2 := by omega
  refine ⟨by show (s.done.set _ _).length = 2; rw [List.length_set]; exact h.len, fun p hp => ?_, rfl, by show (stepL (stepL s)).off = false; rw [q2.1, q.1]; exact h.off, q2.2, ht, hok, har, ?_, ?_⟩
  · rcases List.mem_or_eq_of_mem_set hp with hp | rfl
    · exact h.sec p hp
    · exact rootBlk_len r'
  · show (s.done.set (r'.turn % 2) (encB (rootBlk r'))).getD ((i + 1) % 2) [] = _
    rw [ht, List.getD_eq_getElem?_getD, List.getElem?_set_self (by have := h.len; omega)]
    rfl
  · show isRoot (readB ((s.done.set (r'.turn % 2) (encB (rootBlk r'))).getD (1 - (i + 1) % 2) [])) (1 - (i + 1) % 2) = true → (readB ((s.done.set (r'.turn % 2) (encB (rootBlk r'))).getD (1 - (i + 1) % 2) [])).1.a < i + 1
    have e : (s.done.set (r'.turn % 2) (encB (rootBlk r'))).getD (1 - (i + 1) % 2) [] = encB (rootBlk r) := by
      rw [ht, List.getD_eq_getElem?_getD, List.getElem?_set_ne (by omega), ← List.getD_eq_getElem?_getD, show 1 - (i + 1) % 2 = i % 2 from by omega]
      exact h.here
    rw [e]
    intro _
    have := (isRoot_blk h.ok h.area).2.2
    rw [this, h.turn]
    omega
theorem readB_zero : readB (List.replicate 128 0) = (blkZ, 6) := by unfold readB; rw [if_pos rfl]
theorem storeB_first {r : RootD} (ht : r.turn = 1) (hok : r.Ok) (har : r.area ≤ 1) : storeB (newL 2) r = (afterR (newL 2) r, 0) ∧ Rt (afterR (newL 2) r) 1 r := by
  refine ⟨storeB_quiet rfl rfl rfl rfl har, ?_⟩
  refine ⟨by show (List.set _ _ _).length = 2; rw [List.length_set]; rfl, fun p hp => ?_, rfl, rfl, rfl, ht, hok, har, ?_, ?_⟩
  · rcases List.mem_or_eq_of_mem_set hp with hp | rfl
    · have : p = List.replicate 128 0 := List.eq_of_mem_replicate hp
      rw [this]; simp
    · exact rootBlk_len r
  · show ((List.replicate 2 (List.replicate 128 0)).set (r.turn % 2) (encB (rootBlk r))).getD (1 % 2) [] = _
    rw [ht]
    rfl
  · show isRoot (readB (((List.replicate 2 (List.replicate 128 0)).set (r.turn % 2) (encB (rootBlk r))).getD (1 - 1 % 2) [])) _ = true → _
    have e : ((List.replicate 2 (List.replicate 128 (0 : UInt8))).set (r.turn % 2) (encB (rootBlk r))).getD (1 - 1 % 2) [] = List.replicate 128 0 := by rw [ht]; rfl
    rw [e, readB_zero]
    intro hh
    exact absurd (isRoot_parts hh).1 (by show ¬ ((6 : Nat) = 0); decide)

/-- the power goes while a root is stored -/
theorem storeB_down {s : Sl} {i m : Nat} {r r' : RootD} (h : Rt s i r) (ht : r'.turn = i + 1) (har : r'.area ≤ 1) (hm : m = 1 ∨ m = 2) :
    ∃ s', storeB { s with armed := m } r' = (s', 13) ∧ s'.way = [((i + 1) % 2, encB (rootBlk r'))] ∧ s'.done = s.done ∧ s'.off = true := by
  have hl : ({ s with armed := m } : Sl).done.length = 2 := h.len
  have e := putB_root (s := { s with armed := m }) (r := r') hl h.off h.way
  unfold storeB
  rw [if_neg (by omega), e]
  rcases hm with rfl | rfl
  · have q : (stepL { s with armed := 1 }).off = true := rfl
    rw [q]
    refine ⟨{ stepL { s with armed := 1 } with way := [(r'.turn % 2, encB (rootBlk r'))] }, ?_, ?_, rfl, q⟩
    · simp
    · rw [ht]
  · have q : (stepL { s with armed := 2 }).off = false := rfl
    rw [q]
    refine ⟨{ stepL (stepL { s with armed := 2 }) with way := [(r'.turn % 2, encB (rootBlk r'))] }, ?_, ?_, rfl, rfl⟩
    · simp only [Bool.false_eq_true, if_false, ne_eq, not_true_eq_false]
      unfold flushL
      rw [if_neg (by show ¬ (false = true); simp)]
      rw [if_pos (show (stepL { stepL { s with armed := 2 } with way := [(r'.turn % 2, encB (rootBlk r'))] }).off = true from rfl)]
      rfl
    · rw [ht]
/-- behind the crash the last root is told, or what the torn sector says -/
theorem crash_root {s s' : Sl} {i : Nat} {r r' : RootD} (h : Rt s i r) (hw : s'.way = [((i + 1) % 2, encB (rootBlk r'))]) (hd : s'.done = s.done) (fates : List UInt8) (cut : Int) :
    ∃ p, p.length = 128 ∧ readL (crashL s' fates cut) (((i + 1) % 2 : Nat) : Int) = (p, 0) ∧ (loadB (crashL s' fates cut) = (r, 0) ∨ ((readB p).2 = 0 ∧ (readB p).1.data.length = 1 ∧ loadB (crashL s' fates cut) = (rootOf (readB p).1, 0))) := by
  obtain ⟨p, hp⟩ : ∃ p, torn (fateOf fates 0) (cutOf cut) (s.done.getD ((i + 1) % 2) []) (encB (rootBlk r')) = p := ⟨_, rfl⟩
  have hc : crashL s' fates cut = { s' with done := s.done.set ((i + 1) % 2) p, way := [], off := false, armed := 0 } := by
    unfold crashL
    rw [hw, hd]
    unfold crashD crashD
    rw [hp]
  have hold : (s.done.getD ((i + 1) % 2) []).length = 128 := by
    apply h.sec
    rw [List.getD_eq_getElem?_getD, List.getElem?_eq_getElem (by have := h.len; omega)]
    exact List.getElem_mem _
  have hpl : p.length = 128 := by rw [← hp]; exact torn_length hold (rootBlk_len r') (cutOf_le cut)
  have hlen : (crashL s' fates cut).done.length = 2 := by rw [hc]; show (s.done.set _ _).length = 2; rw [List.length_set]; exact h.len
  have hoff : (crashL s' fates cut).off = false := rfl
  have hway : (crashL s' fates cut).way = [] := rfl
  have s1 : seenL (crashL s' fates cut) ((i + 1) % 2) = p := by
    rw [seen_nil hway, hc]
    show (s.done.set _ _).getD _ [] = _
    rw [List.getD_eq_getElem?_getD, List.getElem?_set_self (by have := h.len; omega)]
    rfl
  have s0 : seenL (crashL s' fates cut) (i % 2) = encB (rootBlk r) := by
    rw [seen_nil hway, hc]
    show (s.done.set _ _).getD _ [] = _
    rw [List.getD_eq_getElem?_getD, List.getElem?_set_ne (by omega), ← List.getD_eq_getElem?_getD]
    exact h.here
  refine ⟨p, hpl, by rw [readL_at (by rw [hlen]; omega) hoff, s1], ?_⟩
  rw [loadB_at (by rw [hlen]; exact Nat.le_refl _) hoff]
  have q := isRoot_blk h.ok h.area
  rw [h.turn] at q
  have := load_whole (encB (rootBlk r)) p r (i % 2) (by rw [h.turn]) q.1 q.2.1 (by rw [h.turn]; exact q.2.2)
  rcases Nat.mod_two_eq_zero_or_one i with e | e
  · have e1 : (i + 1) % 2 = 1 := by omega
    rw [e] at this s0
    rw [e1] at s1
    rw [s0, s1]
    simpa using this
  · have e1 : (i + 1) % 2 = 0 := by omega
    rw [e] at this s0
    rw [e1] at s1
    rw [s0, s1]
    simpa using this
end Go.Proofs.YtoapibbbooongaaDoor
