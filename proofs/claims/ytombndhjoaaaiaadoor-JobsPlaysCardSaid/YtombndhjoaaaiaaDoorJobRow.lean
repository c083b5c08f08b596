/- A row of jobs that may begin behind its block's beginning. -/
import Derived.Test.YtombndhjoaaaiaaDoorJobMap
import Derived.Test.YtombndhjoaaaiaaDoorDraws
import Derived.ArgAppend
namespace Go.Proofs.YtombndhjoaaaiaaDoor
open Go.RowKit Go.Quad _root_.Quad _root_.Quad.Ink

theorem under_jobs : Tryd.prog.underlying 43 = some (.slice 37) := by kernel_rfl
theorem info_jobs : (Tryd.prog.info? 37).map (fun i => (i.zero, i.size, i.bytes)) = some (some (.agg #[.int .u32 0, .int .u8 0, .int .i64 0, .int .i64 0, .int .u8 0, .int .i64 0]), 6, 40) := by kernel_rfl
def JR (w : World) (B : Nat) (v : Value) (l : List JobD) : Prop :=
  (v = .slice none 0 0 ∧ l = []) ∨ ∃ (g off cap : Nat) (cur : List Value), v = .slice (some ⟨g, off, none⟩) l.length cap ∧ B ≤ g ∧ Blk w g cur 37 ∧ l.length ≤ cap ∧ cap ≤ maxLen ∧ off + cap * 6 ≤ cur.length ∧ ∀ i u, (l.flatMap jobV)[i]? = some u → cur[off + i]? = some u
theorem JR.nil (w : World) (B : Nat) : JR w B (.slice none 0 0) [] := .inl ⟨rfl, rfl⟩
theorem JR.chg {S : List Nat} {w w' : World} {B : Nat} {v : Value} {l : List JobD} (h : JR w B v l) (hc : Chg S w w') (hs : ∀ k, v.ownBlock = some k → k ∉ S) : JR w' B v l := by
  rcases h with h | ⟨g, off, cap, cur, rfl, hB, hb, h1⟩
  · exact .inl h
  · exact .inr ⟨g, off, cap, cur, rfl, hB, hb.keep hc (hs g rfl), h1⟩
theorem JR.below {w w' : World} {B : Nat} {v : Value} {l : List JobD} (h : JR w B v l) (hb : Below w.heap.size w w') : JR w' B v l := h.chg (Chg.of_below [] hb) (by simp)
theorem JR.own {w : World} {B : Nat} {v : Value} {l : List JobD} (h : JR w B v l) {k : Nat} (hk : v.ownBlock = some k) : B ≤ k ∧ k < w.heap.size ∧ ∃ cur, Blk w k cur 37 := by
  rcases h with ⟨rfl, _⟩ | ⟨g, off, cap, cur, rfl, hB, hb, h1⟩
  · cases hk
  · have : g = k := by simpa [Value.ownBlock] using hk
    subst this
    exact ⟨hB, hb.lt, cur, hb⟩
theorem flat6 (l : List JobD) : (l.flatMap jobV).length = l.length * 6 := flat_length jobV 6 jobV_length l
theorem flat1 (j : JobD) : [j].flatMap jobV = jobV j := by simp
theorem JR.cs {w : World} {B : Nat} {v : Value} {l : List JobD} (h : JR w B v l) : ∃ a n cap, v = .slice a n cap ∧ l.length = n ∧ n ≤ cap ∧ CS w a cap 6 (l.flatMap jobV) := by
  rcases h with ⟨rfl, rfl⟩ | ⟨g, off, cap, cur, rfl, hB, hb, h1, h2, h3, h4⟩
  · exact ⟨none, 0, 0, rfl, rfl, Nat.le_refl _, ⟨by simp, by simp [maxLen], fun _ => rfl, .inl rfl⟩⟩
  · exact ⟨_, _, cap, rfl, rfl, h1, ⟨by rw [flat6]; omega, h2, by simp, .inr ⟨g, off, rfl, fun i u hu => by rw [hb.cell]; exact h4 i u hu⟩⟩⟩
theorem splice_at (cs l : List Value) (o i : Nat) (h : o + l.length ≤ cs.length) : (splice cs o l)[i]? = if o ≤ i ∧ i < o + l.length then l[i - o]? else cs[i]? := by
  unfold splice
  by_cases h1 : i < o
  · rw [if_neg (by omega), List.getElem?_append_left (by rw [List.length_take]; omega), List.getElem?_take, if_pos h1]
  · rw [List.getElem?_append_right (by rw [List.length_take]; omega), List.length_take, Nat.min_eq_left (by omega)]
    by_cases h2 : i < o + l.length
    · rw [if_pos (by omega), List.getElem?_append_left (by omega)]
    · rw [if_neg (by omega), List.getElem?_append_right (by omega), List.getElem?_drop]
      congr 1; omega
theorem splice_len6 (cs l : List Value) (o : Nat) (h : o + l.length ≤ cs.length) : (splice cs o l).length = cs.length := by
  unfold splice
  rw [List.length_append, List.length_append, List.length_take, List.length_drop]
  omega
/-- one more -/
theorem jr_append {w : World} {B : Nat} {v : Value} {l : List JobD} (h : JR w B v l) (hBw : B ≤ w.heap.size) (hl : l.length ≤ 1000) (j : JobD) (ad : Addr) (c : Nat) (hj : ∀ i u, (jobV j)[i]? = some u → w.cell? (ad.add i) = some u) (ty : TypeId) :
    ∃ v' w', (Builtin.append_ #[43, 43] ty #[v, .slice (some ad) 1 c]).run Tryd.prog w = .ok v' w' ∧ JR w' B v' (l ++ [j]) ∧ Chg v.ownBlock.toList w w' ∧ (v'.ownBlock = v.ownBlock ∨ (v'.ownBlock = some w.heap.size ∧ w.heap.size < w'.heap.size)) := by
  obtain ⟨i, hi, hz0, hz1, hz2⟩ := info_parts info_jobs
  have hnews : (jobV j).length = 1 * i.size := by rw [hz1]; rfl
  rcases h with ⟨rfl, rfl⟩ | ⟨g, off, cap, cur, rfl, hB, hb, h1, h2, h3, h4⟩
  · have hr := run_append_nil (P := Tryd.prog) (w := w) 43 ty 37 i _ under_jobs hi hz0 ad 1 c (jobV j) hnews hj (by omega) (by omega) (by rw [hz2]; omega)
    refine ⟨_, _, hr, .inr ⟨w.heap.size, 0, grownCap w 1 0 37, (jobV j ++ (Builtin.zeroCells (Value.cells (.agg #[.int .u32 0, .int .u8 0, .int .i64 0, .int .i64 0, .int .u8 0, .int .i64 0])) (grownCap w 1 0 37 - 1)).toList), rfl, hBw, ?_, ?_, ?_, ?_, ?_⟩, ?_, ?_⟩
    · have hk := blk_alloc w.drew (jobV j ++ (Builtin.zeroCells (Value.cells (.agg #[.int .u32 0, .int .u8 0, .int .i64 0, .int .i64 0, .int .u8 0, .int .i64 0])) (grownCap w 1 0 37 - 1)).toList) 37
      have e : ((jobV j ++ (Builtin.zeroCells (Value.cells (.agg #[.int .u32 0, .int .u8 0, .int .i64 0, .int .i64 0, .int .u8 0, .int .i64 0])) (grownCap w 1 0 37 - 1)).toList).toArray) = (jobV j).toArray ++ Builtin.zeroCells (Value.cells (.agg #[.int .u32 0, .int .u8 0, .int .i64 0, .int .i64 0, .int .u8 0, .int .i64 0])) (grownCap w 1 0 37 - 1) := by simp
      rw [e] at hk
      exact hk
    · exact grownCap_ge w 1 0 _
    · exact grownCap_le_maxLen w 1 0 _ (by unfold maxLen; omega)
    · have := grownCap_ge w 1 0 37
      simp [size_zeroCells, Value.cells, jobV_length]
      omega
    · intro i u hu
      rw [List.nil_append, flat1] at hu
      rw [Nat.zero_add, List.getElem?_append_left (List.getElem?_eq_some_iff.1 hu).1]
      exact hu
    · exact Chg.of_below _ (((Below.refl _ w).drew).alloc (Nat.le_refl _) _)
    · exact .inr ⟨rfl, by simp⟩
  · by_cases hroom : l.length + 1 ≤ cap
    · have hlt : off + l.length * 6 + 6 ≤ cur.length := by omega
      have hr := run_append_room_cells (P := Tryd.prog) w 43 ty 37 i under_jobs hi g off l.length cap ad 1 c (jobV j) hnews hj (jobV_one j) hroom
        (fun x hx => by rw [hb.cell, hz1, List.getElem?_eq_getElem (by rw [jobV_length] at hx; omega)]; rfl) (fun x _ => hb.free _)
      rw [hz1] at hr
      have hb' := Blk.setMany (jobV j) (off + l.length * 6) w cur hb (by rw [jobV_length]; omega)
      refine ⟨_, _, hr, .inr ⟨g, off, cap, _, by rw [List.length_append]; rfl, hB, hb', by rw [List.length_append]; exact hroom, h2, by rw [splice_len6 _ _ _ (by rw [jobV_length]; omega)]; exact h3, fun x u hu => ?_⟩, ?_, .inl rfl⟩
      · rw [splice_at _ _ _ _ (by rw [jobV_length]; omega), jobV_length]
        rw [List.flatMap_append] at hu
        by_cases hx : x < l.length * 6
        · rw [if_neg (by omega)]
          rw [List.getElem?_append_left (by rw [flat6]; exact hx)] at hu
          exact h4 x u hu
        · rw [List.getElem?_append_right (by rw [flat6]; omega), flat6] at hu
          rw [flat1] at hu
          have hx2 := (List.getElem?_eq_some_iff.1 hu).1
          rw [jobV_length] at hx2
          rw [if_pos (by omega), show off + x - (off + l.length * 6) = x - l.length * 6 from by omega]
          exact hu
      · exact (chg_setCells g (jobV j) (off + l.length * 6) w).mono (fun k hk => .inl (by simpa [Value.ownBlock] using hk))
    · have hcap : cap = l.length := by omega
      have hr := run_append_grow (P := Tryd.prog) (w := w) 43 ty 37 i _ under_jobs hi hz0 ⟨g, off, none⟩ l.length cap (l.flatMap jobV) (by rw [flat6, hz1]) (fun x u hu => by rw [Addr.add_mid, hb.cell]; exact h4 x u hu) ad 1 c (jobV j) hnews hj (by omega) (by omega)
        (growslice_fits (by omega) (by rw [hz2]; omega))
      have hge := grownCap_ge w (l.length + 1) cap 37
      refine ⟨_, _, hr, .inr ⟨w.heap.size, 0, grownCap w (l.length + 1) cap 37, (l.flatMap jobV ++ jobV j ++ (Builtin.zeroCells (Value.cells (.agg #[.int .u32 0, .int .u8 0, .int .i64 0, .int .i64 0, .int .u8 0, .int .i64 0])) (grownCap w (l.length + 1) cap 37 - (l.length + 1))).toList), by rw [List.length_append]; rfl, hBw, ?_, ?_, ?_, ?_, ?_⟩, ?_, ?_⟩
      · have hk := blk_alloc w.drew (l.flatMap jobV ++ jobV j ++ (Builtin.zeroCells (Value.cells (.agg #[.int .u32 0, .int .u8 0, .int .i64 0, .int .i64 0, .int .u8 0, .int .i64 0])) (grownCap w (l.length + 1) cap 37 - (l.length + 1))).toList) 37
        have e : ((l.flatMap jobV ++ jobV j ++ (Builtin.zeroCells (Value.cells (.agg #[.int .u32 0, .int .u8 0, .int .i64 0, .int .i64 0, .int .u8 0, .int .i64 0])) (grownCap w (l.length + 1) cap 37 - (l.length + 1))).toList).toArray) = (l.flatMap jobV).toArray ++ (jobV j).toArray ++ Builtin.zeroCells (Value.cells (.agg #[.int .u32 0, .int .u8 0, .int .i64 0, .int .i64 0, .int .u8 0, .int .i64 0])) (grownCap w (l.length + 1) cap 37 - (l.length + 1)) := by simp
        rw [e] at hk
        exact hk
      · rw [List.length_append]; exact hge
      · exact grownCap_le_maxLen w (l.length + 1) cap _ (by unfold maxLen; omega)
      · rw [List.length_append, List.length_append, flat6, jobV_length]
        simp [size_zeroCells, Value.cells]
        omega
      · intro x u hu
        rw [List.flatMap_append, flat1] at hu
        rw [Nat.zero_add, List.getElem?_append_left (List.getElem?_eq_some_iff.1 hu).1]
        exact hu
      · exact Chg.of_below _ (((Below.refl _ w).drew).alloc (Nat.le_refl _) _)
      · exact .inr ⟨rfl, by simp⟩
/-- but the first -/
theorem jr_cut {w : World} {B : Nat} {v : Value} {x : JobD} {l : List JobD} (h : JR w B v (x :: l)) : ∃ v', (Instr.slice 43 v (some (.int .i64 1)) none none).run Tryd.prog w = .ok v' w ∧ JR w B v' l ∧ v'.ownBlock = v.ownBlock := by
  obtain ⟨i, hi, _, hz1, _⟩ := info_parts info_jobs
  rcases h with ⟨_, h⟩ | ⟨g, off, cap, cur, rfl, hB, hb, h1, h2, h3, h4⟩
  · cases h
  · have hr := run_slice_cut0 (P := Tryd.prog) (w := w) 43 37 i 6 under_jobs hi hz1 (a := some ⟨g, off, none⟩) (n := (x :: l).length) (cap := cap) (some (.int .i64 ((1 : Nat) : Int))) none 1 (x :: l).length (.inl rfl) (.inr ⟨rfl, rfl⟩) (by simp) h1
    rw [List.length_cons] at h1
    by_cases hc : cap = 1
    · subst hc
      rw [if_pos rfl] at hr
      have hl0 : l = [] := List.length_eq_zero_iff.1 (by omega)
      subst hl0
      exact ⟨_, hr, .inr ⟨g, off, 0, cur, rfl, hB, hb, Nat.le_refl _, Nat.zero_le _, by omega, fun i u hu => by simp at hu⟩, rfl⟩
    · rw [if_neg hc] at hr
      refine ⟨_, hr, .inr ⟨g, off + 6, cap - 1, cur, ?_, hB, hb, by omega, by omega, by omega, fun i u hu => ?_⟩, rfl⟩
      · simp only [Option.map_some, List.length_cons]
        rw [show ((⟨g, off, none⟩ : Addr).add (1 * 6)) = ⟨g, off + 6, none⟩ from by rw [Addr.add_mid]]
        rfl
      · have := h4 (6 + i) u (by
          rw [List.flatMap_cons, List.getElem?_append_right (by rw [jobV_length]; omega), jobV_length]
          rw [show 6 + i - 6 = i from by omega]; exact hu)
        rw [show off + 6 + i = off + (6 + i) from by omega]; exact this
end Go.Proofs.YtombndhjoaaaiaaDoor
