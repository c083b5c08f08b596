/- Plain: places that are taken or free: the least that are free are taken first. -/
import Derived.Test.YtoapibbbooongaaDoorLib
namespace Go.Proofs.YtoapibbbooongaaDoor
open Go.RowKit Go.Quad _root_.Quad

/-- how many are free -/
def leftM (m : List Bool) : Nat := m.countP (fun b => b == false)
def markM (m : List Bool) (i : Int) (b : Bool) : List Bool × Bool :=
  if 0 ≤ i ∧ i < (m.length : Int) ∧ m.getD i.toNat b = !b then (m.set i.toNat b, true) else (m, false)
/-- the free places ahead of one -/
def freeP (m : List Bool) (i : Nat) : List Nat := (List.range i).filter (fun x => m.getD x true == false)
/-- all ahead of one are taken -/
def mkM (m : List Bool) (i : Nat) : List Bool := List.replicate i true ++ m.drop i

theorem mkM_zero (m : List Bool) : mkM m 0 = m := rfl
theorem mkM_length {m : List Bool} {i : Nat} (h : i ≤ m.length) : (mkM m i).length = m.length := by
  unfold mkM; rw [List.length_append, List.length_replicate, List.length_drop]; omega
theorem mkM_get {m : List Bool} {i x : Nat} (hx : i ≤ x) : (mkM m i)[x]? = m[x]? := by
  unfold mkM
  rw [List.getElem?_append_right (by rw [List.length_replicate]; exact hx), List.length_replicate, List.getElem?_drop]
  congr 1; omega
theorem mkM_lt {m : List Bool} {i x : Nat} (hx : x < i) : (mkM m i)[x]? = some true := by
  unfold mkM
  rw [List.getElem?_append_left (by rw [List.length_replicate]; exact hx), List.getElem?_replicate, if_pos hx]
theorem mkM_set {m : List Bool} {i : Nat} (h : i < m.length) : (mkM m i).set i true = mkM m (i + 1) := by
  apply List.ext_getElem?
  intro x
  rw [List.getElem?_set]
  rcases Nat.lt_trichotomy x i with hx | rfl | hx
  · rw [if_neg (by omega), mkM_lt hx, mkM_lt (by omega)]
  · rw [if_pos rfl, if_pos (by rw [mkM_length (by omega)]; exact h), mkM_lt (by omega)]
  · rw [if_neg (by omega), mkM_get (by omega), mkM_get (by omega)]
theorem mkM_skip {m : List Bool} {i : Nat} (h : m[i]? = some true) : mkM m (i + 1) = mkM m i := by
  apply List.ext_getElem?
  intro x
  rcases Nat.lt_trichotomy x i with hx | rfl | hx
  · rw [mkM_lt (by omega), mkM_lt hx]
  · rw [mkM_lt (by omega), mkM_get (Nat.le_refl _), h]
  · rw [mkM_get (by omega), mkM_get (by omega)]
theorem freeP_succ (m : List Bool) (i : Nat) : freeP m (i + 1) = freeP m i ++ (if m.getD i true == false then [i] else []) := by
  unfold freeP
  rw [List.range_succ, List.filter_append]
  congr 1
  rw [List.filter_cons]
  rfl
theorem freeP_lt {m : List Bool} {i x : Nat} (h : x ∈ freeP m i) : x < i ∧ m.getD x true = false := by
  unfold freeP at h
  rw [List.mem_filter, List.mem_range] at h
  exact ⟨h.1, by simpa using h.2⟩
theorem left_split (m : List Bool) : ∀ i, i ≤ m.length → leftM (mkM m i) + (freeP m i).length = leftM m
  | 0, _ => rfl
  | i + 1, h => by
    have ih := left_split m i (by omega)
    rw [freeP_succ, List.length_append]
    have hg : m.getD i true = m[i] := by rw [List.getD_eq_getElem?_getD, List.getElem?_eq_getElem (by omega)]; rfl
    by_cases hb : m[i] = true
    · rw [mkM_skip (by rw [List.getElem?_eq_getElem (by omega), hb]), if_neg (by rw [hg, hb]; decide)]
      simpa using ih
    · have hb' : m[i] = false := by simpa using hb
      rw [if_pos (by rw [hg, hb']; rfl)]
      have e1 : mkM m i = List.replicate i true ++ (false :: m.drop (i + 1)) := by
        unfold mkM
        rw [List.drop_eq_getElem_cons (l := m) (i := i) (by omega), hb']
      have e2 : mkM m (i + 1) = List.replicate i true ++ (true :: m.drop (i + 1)) := by
        unfold mkM
        rw [List.replicate_succ', List.append_assoc]
        rfl
      rw [e1] at ih
      rw [e2]
      unfold leftM at ih ⊢
      simp only [List.countP_append, List.countP_cons] at ih ⊢
      simp at ih ⊢
      omega
theorem freeP_all (m : List Bool) : (freeP m m.length).length = leftM m := by
  have h := left_split m m.length (Nat.le_refl _)
  have : leftM (mkM m m.length) = 0 := by
    unfold mkM leftM
    rw [List.drop_length, List.append_nil, List.countP_replicate]
    rfl
  omega
theorem freeP_more {m : List Bool} {i n : Nat} (hi : i ≤ m.length) (hn : n ≤ leftM m) (h : (freeP m i).length < n) : i < m.length := by
  rcases Nat.lt_or_ge i m.length with hl | hl
  · exact hl
  · have : i = m.length := by omega
    subst this
    rw [freeP_all] at h
    omega
theorem left_le (m : List Bool) : leftM m ≤ m.length := List.countP_le_length
theorem left_mark {m : List Bool} {i : Nat} (h : m[i]? = some false) : leftM (m.set i true) + 1 = leftM m := by
  obtain ⟨hi, e⟩ := List.getElem?_eq_some_iff.1 h
  have h1 : m = m.take i ++ false :: m.drop (i + 1) := by
    have := (List.take_append_drop i m).symm
    rw [List.drop_eq_getElem_cons (l := m) (i := i) hi, e] at this
    exact this
  have h2 : m.set i true = m.take i ++ true :: m.drop (i + 1) := by
    rw [List.set_eq_take_append_cons_drop, if_pos hi]
  rw [h2]
  conv => rhs; rw [h1]
  unfold leftM
  simp only [List.countP_append, List.countP_cons]
  simp
  omega
theorem left_free {m : List Bool} {i : Nat} (h : m[i]? = some true) : leftM (m.set i false) = leftM m + 1 := by
  obtain ⟨hi, e⟩ := List.getElem?_eq_some_iff.1 h
  have h1 : (m.set i false)[i]? = some false := by rw [List.getElem?_set_self hi]
  have := left_mark h1
  rw [List.set_set, show m.set i true = m from by rw [← e]; exact List.set_getElem_self hi] at this
  omega
theorem freeP_take {m : List Bool} : ∀ (i q : Nat) (hq : q < (freeP m i).length), freeP m ((freeP m i)[q]) = (freeP m i).take q
  | 0, q, hq => by simp [freeP] at hq
  | i + 1, q, hq => by
    by_cases hb : (m.getD i true == false) = true
    · have e : freeP m (i + 1) = freeP m i ++ [i] := by rw [freeP_succ, if_pos hb]
      rcases Nat.lt_or_ge q (freeP m i).length with hl | hl
      · have h1 : (freeP m (i + 1))[q] = (freeP m i)[q] := by
          simp only [e]
          rw [List.getElem_append_left hl]
        rw [h1, freeP_take i q hl, e, List.take_append_of_le_length (by omega)]
      · have hq2 : q = (freeP m i).length := by rw [e, List.length_append] at hq; simp at hq; omega
        subst hq2
        have h1 : (freeP m (i + 1))[(freeP m i).length] = i := by
          simp only [e]
          rw [List.getElem_append_right (Nat.le_refl _)]
          simp
        rw [h1, e, List.take_left' rfl]
    · have e : freeP m (i + 1) = freeP m i := by rw [freeP_succ, if_neg hb, List.append_nil]
      have hl : q < (freeP m i).length := by rw [e] at hq; exact hq
      have h1 : (freeP m (i + 1))[q] = (freeP m i)[q] := by simp only [e]
      rw [h1, e]
      exact freeP_take i q hl
theorem mkM_skips {m : List Bool} {a : Nat} : ∀ d, (∀ x, a ≤ x → x < a + d → m[x]? = some true) → mkM m (a + d) = mkM m a
  | 0, _ => rfl
  | d + 1, h => by
    rw [← Nat.add_assoc, mkM_skip (h (a + d) (by omega) (by omega)), mkM_skips d fun x h1 h2 => h x h1 (by omega)]
/-- where the next one is looked for -/
def fromP (l : List Nat) (q : Nat) : Nat := if q = 0 then 0 else l.getD (q - 1) 0 + 1
theorem freeP_rise {m : List Bool} (i : Nat) : (freeP m i).Pairwise (fun a b => a < b) := List.Pairwise.filter _ List.pairwise_lt_range
theorem from_le {m : List Bool} {i q : Nat} (hq : q < (freeP m i).length) : fromP (freeP m i) q ≤ (freeP m i)[q] := by
  unfold fromP
  split
  · omega
  · have := List.pairwise_iff_getElem.1 (freeP_rise (m := m) i) (q - 1) q (by omega) hq (by omega)
    rw [List.getD_eq_getElem?_getD, List.getElem?_eq_getElem (by omega)]
    exact this
theorem from_taken {m : List Bool} {i q : Nat} (hi : i ≤ m.length) (hq : q < (freeP m i).length) (x : Nat) (h1 : fromP (freeP m i) q ≤ x) (h2 : x < (freeP m i)[q]) : m[x]? = some true := by
  have hlt := (freeP_lt (List.getElem_mem hq)).1
  by_cases hm : m.getD x true = false
  · have hx : x ∈ freeP m ((freeP m i)[q]) := by
      unfold freeP at h2 ⊢
      rw [List.mem_filter, List.mem_range]
      exact ⟨h2, by rw [hm]; rfl⟩
    rw [freeP_take i q hq] at hx
    obtain ⟨y, hy, rfl⟩ := List.mem_iff_getElem.1 hx
    rw [List.length_take] at hy
    rw [List.getElem_take] at h1
    unfold fromP at h1
    rw [if_neg (by omega)] at h1
    rw [List.getD_eq_getElem?_getD, List.getElem?_eq_getElem (by omega)] at h1
    have h1 : (freeP m i)[q - 1] + 1 ≤ (freeP m i)[y] := h1
    rcases Nat.lt_or_ge y (q - 1) with hl | hl
    · have := List.pairwise_iff_getElem.1 (freeP_rise (m := m) i) y (q - 1) (by omega) (by omega) hl
      omega
    · have : y = q - 1 := by omega
      subst this
      omega
  · have hb : m.getD x true = true := by simpa using hm
    rw [List.getD_eq_getElem?_getD, List.getElem?_eq_getElem (by omega)] at hb
    rw [List.getElem?_eq_getElem (by omega)]
    exact congrArg some hb
/-- before the next is taken, all ahead of it is -/
theorem mk_from {m : List Bool} {i q : Nat} (hi : i ≤ m.length) (hq : q < (freeP m i).length) : mkM m ((freeP m i)[q]) = mkM m (fromP (freeP m i) q) := by
  have h := from_le hq
  obtain ⟨d, hd⟩ : ∃ d, (freeP m i)[q] = fromP (freeP m i) q + d := ⟨_, (Nat.add_sub_cancel' h).symm⟩
  rw [hd]
  exact mkM_skips d fun x h1 h2 => from_taken hi hq x h1 (by rw [hd]; exact h2)
end Go.Proofs.YtoapibbbooongaaDoor
