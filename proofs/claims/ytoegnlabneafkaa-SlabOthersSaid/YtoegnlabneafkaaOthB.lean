/- SlabOthers: plain: what each sector may have. -/
import Derived.Test.YtoegnlabneafkaaOthA
namespace Go.Proofs.Ytoegnlabneafkaa
open Go.RowKit Go.Quad _root_.Quad.Slab

def MS (VS : List CandL) (k : Nat) : List (List UInt8) := ((VS.getD k (.slice none 0 0, [])).2).map (·.2)
structure OthQ (n : Nat) (s : Sl) : Prop where
  off : s.off = false
  armed : s.armed = 0
  len : s.done.length = 5
  sec : ∀ p ∈ s.done, p.length = 128
  way : ∀ w ∈ s.way, w.2.length = 128 ∧ w.1 < 5
  few : s.steps ≤ n ∧ s.way.length ≤ n
theorem othQ_new : OthQ 0 (newL 5) := ⟨rfl, rfl, rfl, by intro p hp; simp [newL] at hp; subst hp; simp, by simp [newL], by simp [newL]⟩
theorem OthQ.step {n : Nat} {s : Sl} (h : OthQ n s) : (stepL s).off = false := by simp [stepL, h.armed, h.off]
theorem OthQ.has {n : Nat} {s : Sl} (h : OthQ n s) {i : Nat} (hi : i < 5) {k : Nat} (hk : k ≤ 128) : hasL s (i : Int) k = 0 := by
  unfold hasL
  rw [if_neg (by have := h.len; omega), if_neg (by omega), h.off]
  rfl
theorem OthQ.write_eq {n : Nat} {s : Sl} (h : OthQ n s) {i : Nat} (hi : i < 5) {t : List UInt8} (ht : t.length ≤ 128) : writeL s (i : Int) t = ({ stepL s with way := s.way ++ [(i, pad t)] }, 0) := by
  unfold writeL
  rw [h.has hi ht, h.step]
  simp
theorem OthQ.write {n : Nat} {s : Sl} (h : OthQ n s) {i : Nat} (hi : i < 5) {t : List UInt8} (ht : t.length ≤ 128) : OthQ (n + 1) (writeL s (i : Int) t).1 := by
  rw [h.write_eq hi ht]
  refine ⟨h.step, by show s.armed - 1 = 0; have := h.armed; omega, h.len, h.sec, fun w hw => ?_, by show s.steps + 1 ≤ _; have := h.few; omega, by show (s.way ++ _).length ≤ _; have := h.few; simp; omega⟩
  rcases List.mem_append.1 hw with hw | hw
  · exact h.way w hw
  · rw [List.mem_singleton] at hw; subst hw; exact ⟨pad_length ht, hi⟩
theorem foldl_sec : ∀ (l : List (Nat × List UInt8)) (D : List (List UInt8)), (∀ w ∈ l, w.2.length = 128) → (∀ p ∈ D, p.length = 128) → ∀ p ∈ l.foldl (fun d w => d.set w.1 w.2) D, p.length = 128
  | [], D, _, hD => hD
  | x :: l, D, hl, hD => foldl_sec l _ (fun w hw => hl w (List.mem_cons_of_mem _ hw)) fun p hp => by
    rcases List.mem_or_eq_of_mem_set hp with hp | rfl
    · exact hD p hp
    · exact hl x List.mem_cons_self
theorem foldl_len : ∀ (l : List (Nat × List UInt8)) (D : List (List UInt8)), (l.foldl (fun d w => d.set w.1 w.2) D).length = D.length
  | [], _ => rfl
  | x :: l, D => by rw [List.foldl_cons, foldl_len l]; simp
theorem OthQ.flush {n : Nat} {s : Sl} (h : OthQ n s) : OthQ (n + 1) (flushL s).1 ∧ (flushL s).1.way = [] := by
  have e : flushL s = ({ stepL s with done := s.way.foldl (fun d w => d.set w.1 w.2) s.done, way := [] }, 0) := by
    unfold flushL
    rw [if_neg (by rw [h.off]; decide), if_neg (by rw [h.step]; decide)]
  rw [e]
  exact ⟨⟨h.step, by show s.armed - 1 = 0; have := h.armed; omega, by show (s.way.foldl _ s.done).length = 5; rw [foldl_len]; exact h.len, foldl_sec _ _ (fun w hw => (h.way w hw).1) h.sec, by simp, by show s.steps + 1 ≤ _; have := h.few; omega, by show ([] : List (Nat × List UInt8)).length ≤ _; simp⟩, rfl⟩
theorem OthQ.read {n : Nat} {s : Sl} (h : OthQ n s) (hw : s.way = []) {i : Nat} (hi : i < 5) : readL s (i : Int) = (s.done.getD i [], 0) := by
  unfold readL
  rw [h.has hi (by omega)]
  simp [seenL, hw]
/-- what each sector may have holds what it has, and what is under way -/
structure OthP (n : Nat) (s : Sl) (VS : List CandL) : Prop where
  q : OthQ n s
  vs : VS.length = 5
  all : ∀ y ∈ VS, ∀ x ∈ y.2, x.2.length = 128
  has : ∀ k, k < 5 → s.done.getD k [] ∈ MS VS k
  may : ∀ w ∈ s.way, w.2 ∈ MS VS w.1
  few : ∀ k, k < 5 → (MS VS k).length ≤ n
theorem MS_set {VS : List CandL} {i k : Nat} {y : CandL} {x : Value × List UInt8} {v' : Value} (hi : VS[i]? = some y) : MS (VS.set i (v', y.2 ++ [x])) k = if i = k then MS VS k ++ [x.2] else MS VS k := by
  obtain ⟨h1, h2⟩ := List.getElem?_eq_some_iff.1 hi
  unfold MS
  rw [List.getD_eq_getElem?_getD, List.getD_eq_getElem?_getD, List.getElem?_set]
  by_cases e : i = k
  · subst e
    rw [if_pos rfl, if_pos h1, if_pos rfl, hi]
    simp
  · rw [if_neg e, if_neg e]
theorem OthP.write {n : Nat} {s : Sl} {VS : List CandL} (h : OthP n s VS) {i : Nat} (hi : i < 5) {t : List UInt8} (ht : t.length ≤ 128) {y : CandL} {x : Value × List UInt8} {v' : Value} (hy : VS[i]? = some y) (hx : x.2 = pad t) :
    OthP (n + 1) (writeL s (i : Int) t).1 (VS.set i (v', y.2 ++ [x])) := by
  refine ⟨h.q.write hi ht, by rw [List.length_set]; exact h.vs, fun z hz q hq => ?_, fun k hk => ?_, fun w hw => ?_, fun k hk => ?_⟩
  · rcases List.mem_or_eq_of_mem_set hz with hz | rfl
    · exact h.all z hz q hq
    · rcases List.mem_append.1 hq with hq | hq
      · exact h.all y (List.mem_of_getElem? hy) q hq
      · rw [List.mem_singleton] at hq; subst hq; rw [hx]; exact pad_length ht
  · rw [h.q.write_eq hi ht, MS_set hy]
    have := h.has k hk
    split
    · exact List.mem_append_left _ this
    · exact this
  · rw [h.q.write_eq hi ht] at hw
    rw [MS_set hy]
    rcases List.mem_append.1 hw with hw | hw
    · have := h.may w hw
      split
      · exact List.mem_append_left _ this
      · exact this
    · rw [List.mem_singleton] at hw; subst hw
      rw [if_pos rfl, ← hx]
      simp
  · rw [MS_set hy]
    have := h.few k hk
    split
    · simp; omega
    · omega
theorem crashD_sec (fates : List UInt8) (c : Nat) (hc : c ≤ 128) : ∀ (way : List (Nat × List UInt8)) (n : Nat) (d : List (List UInt8)), (∀ w ∈ way, w.2.length = 128 ∧ w.1 < d.length) → (∀ p ∈ d, p.length = 128) → ∀ p ∈ crashD fates c n way d, p.length = 128
  | [], _, _, _, h => h
  | w :: r, n, d, hw, hd => by
    obtain ⟨w1, w2⟩ := hw w List.mem_cons_self
    have hlen : (d.getD w.1 []).length = 128 := hd _ (by rw [List.getD_eq_getElem?_getD, List.getElem?_eq_getElem w2]; simp)
    unfold crashD
    refine crashD_sec fates c hc r (n + 1) _ (fun x hx => ?_) fun p hp => ?_
    · have := hw x (List.mem_cons_of_mem _ hx)
      exact ⟨this.1, by rw [List.length_set]; exact this.2⟩
    · rcases List.mem_or_eq_of_mem_set hp with hp | rfl
      · exact hd p hp
      · exact torn_length hlen w1 hc
theorem crashD_len5 (fates : List UInt8) (c : Nat) : ∀ (way : List (Nat × List UInt8)) (n : Nat) (d : List (List UInt8)), (crashD fates c n way d).length = d.length
  | [], _, _ => rfl
  | w :: r, n, d => by unfold crashD; rw [crashD_len5 fates c r (n + 1)]; simp
/-- behind the crash each byte is a candidate's -/
theorem OthP.crash {n : Nat} {s : Sl} {VS : List CandL} (h : OthP n s VS) (fates : List UInt8) (cut : Int) : OthQ n (crashL s fates cut) ∧ (crashL s fates cut).way = [] ∧ ∀ k, k < 5 → Mix (MS VS k) ((crashL s fates cut).done.getD k []) := by
  have hway : ∀ w ∈ s.way, w.2.length = 128 ∧ w.1 < s.done.length := fun w hw => by
    have := h.q.way w hw
    exact ⟨this.1, by rw [h.q.len]; exact this.2⟩
  refine ⟨⟨rfl, rfl, by show (crashD _ _ _ _ _).length = 5; rw [crashD_len5]; exact h.q.len, crashD_sec _ _ (cutOf_le cut) _ _ _ hway h.q.sec, by simp [crashL], h.q.few.1, by show ([] : List (Nat × List UInt8)).length ≤ n; simp⟩, rfl, fun k hk => ?_⟩
  exact crash_mix fates (cutOf cut) k (MS VS k) (cutOf_le cut) s.way 0 s.done (fun w hw => ⟨(hway w hw).1, (hway w hw).2, fun e => by rw [← e]; exact h.may w hw⟩) h.q.sec (Mix.mem (h.has k hk))
/-- a candidate among the first -/
def anyL (LW : List (Value × List UInt8)) (j : Nat) (b : UInt8) (t : Nat) : Bool := (LW.take t).any fun x => x.2[j]? == some b
theorem anyL_succ {LW : List (Value × List UInt8)} {j : Nat} {b : UInt8} {t : Nat} (ht : t < LW.length) : anyL LW j b (t + 1) = (anyL LW j b t || (LW[t].2[j]? == some b)) := by
  have e : LW.take (t + 1) = LW.take t ++ [LW[t]] := by rw [List.take_add_one, List.getElem?_eq_getElem ht]; rfl
  unfold anyL
  rw [e, List.any_append]
  simp
theorem anyL_all {LW : List (Value × List UInt8)} {j : Nat} {b : UInt8} {p : List UInt8} (h : Mix (LW.map (·.2)) p) (hp : p[j]? = some b) : anyL LW j b LW.length = true := by
  obtain ⟨q, hq, e⟩ := h j b hp
  obtain ⟨x, hx, rfl⟩ := List.mem_map.1 hq
  unfold anyL
  rw [List.take_length, List.any_eq_true]
  exact ⟨x, hx, by rw [e]; simp⟩
end Go.Proofs.Ytoegnlabneafkaa
