/- The walks of the document's answer of layer 18: new nodes, what is heard. -/
import Derived.Test.YtolgfemjpkgloaaLeaseF
namespace Go.Quad
open Go.RowKit
theorem RO.empty {α : Type} (f : α → List Value) (sz : Nat) (w : World) (e : TypeId) : RO f sz (w.alloc (.cells #[] e)) w.heap.size e (.slice (some ⟨w.heap.size, 0, none⟩) 0 0) [] := by
  refine ⟨by simp, .inr ⟨w.heap.size, 0, #[], rfl, Nat.le_refl _, heap_alloc_new w _, Nat.le_refl _, by simp [maxLen], by simp, by simp⟩⟩

theorem RO.at' {α : Type} {f : α → List Value} {sz : Nat} {w : World} {base : Nat} {e : TypeId} {v : Value} {l : List α} (h : RO f sz w base e v l) (h0 : 0 < l.length) :
    ∃ g cap, v = .slice (some ⟨g, 0, none⟩) l.length cap ∧ base ≤ g ∧ g < w.heap.size ∧ l.length ≤ cap ∧ cap ≤ maxLen := by
  rcases h.2 with ⟨rfl, hx⟩ | ⟨g, cap, cur, hv, hb, hg, hn, hm, _⟩
  · obtain ⟨a, n, c, e1, e2, e3, e4⟩ := RO.cs h
    cases e1
    omega
  · exact ⟨g, cap, hv, hb, (Array.getElem?_eq_some_iff.1 hg).1, hn, hm⟩

theorem RO.get {α : Type} {f : α → List Value} {sz : Nat} (hf : ∀ x, (f x).length = sz) {w : World} {base g n cap : Nat} {e : TypeId} {l : List α} (h : RO f sz w base e (.slice (some ⟨g, 0, none⟩) n cap) l) {k : Nat} (hk : k < l.length) {j : Nat} {v : Value} (hj : j < sz) (hv : (f l[k])[j]? = some v) :
    w.cell? ⟨g, k * sz + j, none⟩ = some v ∧ w.frozen? ⟨g, k * sz + j, none⟩ = false := by
  obtain ⟨g', cap', e', _⟩ := RO.at' h (by omega)
  cases e'
  have hl : k * sz + j < l.length * sz := by
    have : (k + 1) * sz ≤ l.length * sz := Nat.mul_le_mul_right _ hk
    rw [Nat.add_mul] at this
    omega
  refine ⟨?_, World.ownsRow.frozenAt h _⟩
  rw [World.ownsRow.cellAt h _ hl, flat_get f sz hf l k j _ (List.getElem?_eq_getElem hk) hj]
  exact hv

theorem RO.set1 {α : Type} {f : α → List Value} {sz : Nat} (hf : ∀ x, (f x).length = sz) {w : World} {base g n cap : Nat} {e : TypeId} {l : List α} (h : RO f sz w base e (.slice (some ⟨g, 0, none⟩) n cap) l) {k : Nat} (hk : k < l.length) {j : Nat} (hj : j < sz) (x' : α) (v : Value) (hx : f x' = (f l[k]).set j v) :
    RO f sz (w.setCell ⟨g, k * sz + j, none⟩ v) base e (.slice (some ⟨g, 0, none⟩) n cap) (l.set k x') := by
  obtain ⟨g', cap', e', _⟩ := RO.at' h (by omega)
  cases e'
  have := (World.ownsRow.stored h (k * sz + j) v).1
  rw [flat_set f sz hf l k j _ x' v (List.getElem?_eq_getElem hk) hj hx] at this
  unfold RO
  rw [List.length_set]
  exact this
end Go.Quad
namespace Go.Proofs.Ytolgfemjpkgloaa
open Go.RowKit Go.Quad _root_.Quad.Lease

theorem under_rnodes : Try.prog.underlying 40 = some (.slice 52) := by kernel_rfl
theorem under_rgrants : Try.prog.underlying 47 = some (.slice 50) := by kernel_rfl
theorem info_rnode : (Try.prog.info? 52).map (fun i => (i.zero, i.size, i.bytes)) = some (some (.agg #[.int .u8 0, .int .u32 0, .int .u32 0, .int .u32 0]), 4, 16) := by kernel_rfl
theorem info_rgrant : (Try.prog.info? 50).map (fun i => (i.zero, i.size, i.bytes)) = some (some (.agg #[.int .i64 0, .int .u32 0]), 2, 16) := by kernel_rfl
theorem ndV_one (x : Nd) : ∀ u ∈ ndV x, u.oneCell' = true := by intro u hu; simp [ndV] at hu; rcases hu with rfl | rfl | rfl | rfl <;> rfl

/-- the document's nodes in memory -/
structure RN (w : World) (a : Option Addr) (cap : Nat) (L : List Nd) : Prop where
  row : CS w a cap 4 (L.flatMap ndV)
  fit : L.length ≤ cap
  ok : ∀ n ∈ L, okNd n
  small : L.length ≤ 16

theorem RN.below {w w' : World} {a : Option Addr} {cap : Nat} {L : List Nd} (h : RN w a cap L) (hb : Below w.heap.size w w') : RN w' a cap L := ⟨h.row.below hb, h.fit, h.ok, h.small⟩

theorem refnewnil_calls (w : World) (n : Int) (h : n < 1 ∨ 16 < n) : Calls Try.prog 12 #[.int .i64 n] w fun e w' => e = .returned (.tuple #[.slice none 0 0, .int .i64 1]) ∧ w = w' := by
  by_cases h1 : n < 1
  · go_enter Try.func12, Try.ntmps12
    go_wp2_with fail
    go_ret2
    exact ⟨rfl, rfl⟩
  · have h1' : decide (n < 1) = false := by simpa using h1
    have h2 : 16 < n := by omega
    go_enter Try.func12, Try.ntmps12
    go_wp2_with fail
    go_ret2
    exact ⟨rfl, rfl⟩

theorem made_nodes (n : Nat) : (madeCells (Value.agg #[.int .u8 0, .int .u32 0, .int .u32 0, .int .u32 0]).cells (n * 4)).toList = (List.replicate n zero).flatMap ndV := by
  have := made_flat (Value.agg #[.int .u8 0, .int .u32 0, .int .u32 0, .int .u32 0]).cells n (by decide)
  rw [show (Value.agg #[.int .u8 0, .int .u32 0, .int .u32 0, .int .u32 0]).cells.size = 4 from rfl] at this
  rw [this, List.flatMap_def, List.map_replicate]
  rfl

theorem ok_zeros (n : Nat) : ∀ q ∈ List.replicate n zero, okNd q := by
  intro q hq
  rw [List.mem_replicate] at hq
  rw [hq.2]
  exact ⟨by simp [zero], by simp [zero], by simp [zero], by simp [zero]⟩

def RefNewTo (w : World) (n : Nat) (e : Ending) (w' : World) : Prop :=
  ∃ a, e = .returned (.tuple #[.slice (some a) n n, .int .i64 0]) ∧ (RN w' (some a) n (List.replicate n zero) ∧ w.heap.size ≤ a.block) ∧ Below w.heap.size w w'

theorem refnew_calls (w : World) (n : Nat) (h : 1 ≤ n ∧ n ≤ 16) : Calls Try.prog 12 #[.int .i64 (n : Int)] w (RefNewTo w n) := by
  obtain ⟨i0, hi, hz0, hz1, hz2⟩ := info_parts info_rnode
  have Hi := hid hi; have Hz0 := hid hz0; have Hz1 := hid hz1; have Hz2 := hid hz2
  have h1 : ¬ ((n : Int) < 1) := by omega
  have h2 : ¬ (16 < (n : Int)) := by omega
  clear hi hz0 hz1 hz2
  go_enter Try.func12, Try.ntmps12
  go_wp2_with (at_make; go_must (refine wpList_make_full _ rfl (.tmp 10) (.tmp 10) _ rfl w.heap.size 52 i0 (.agg #[.int .u8 0, .int .u32 0, .int .u32 0, .int .u32 0]) 4 under_rnodes Hi.out Hz0.out Hz1.out .i64 .i64 _ _ n rfl rfl (by omega) (by omega) (by rw [Hz2.out]; omega) (by unfold maxLen; omega) (Nat.le_refl _) ?_; intro w1 hown hgr))
  have hb1 : Below w.heap.size w w1 := grownBy_below hgr (Nat.le_refl _) (by simp)
  rw [made_nodes] at hown
  obtain ⟨a, c, e, hle, hcs, _⟩ := ownsRow_cs hown
  simp only [Value.slice.injEq, true_and] at e
  obtain ⟨rfl, rfl⟩ := e
  have HC := hid hcs
  have Hb1 := hid hb1
  clear hown hgr hb1 hcs
  go_ret2
  exact ⟨_, rfl, ⟨⟨HC.out, by simp, ok_zeros n, by simp; omega⟩, Nat.le_refl _⟩, Hb1.out⟩

theorem refin_calls (w : World) : Calls Try.prog 21 #[.int .i64 8] w fun e w' => e = .returned (.int .i64 8) ∧ w = w' := by
  go_enter Try.func21, Try.ntmps21
  go_wp2_with fail
  go_ret
  exact ⟨rfl, rfl⟩

set_option maxRecDepth 20000 in
theorem reflater_calls (w : World) (n : Nat) (h : n ≤ 4294967295) : Calls Try.prog 19 #[.int .u32 (n : Int), .int .i64 8] w fun e w' => e = .returned (.int .u32 (later8 n : Int)) ∧ w = w' := by
  have hn : (n : Int) ≤ 4294967295 := by omega
  have hl : (later8 n : Int) = if (n : Int) + 8 ≤ 4294967295 then (n : Int) + 8 else 4294967295 := by unfold later8; split <;> omega
  have Hl := hid hl
  clear hl
  by_cases hb : n + 8 ≤ 4294967295
  · have hb' : decide ((4294967295 : Int) < (n : Int) + 8) = false := by simp; omega
    go_enter Try.func19, Try.ntmps19
    go_wp2_with (go_at_call 21; refine (refin_calls _).mono ?_; rintro e w' ⟨rfl, rfl⟩)
    go_ret
    refine ⟨?_, rfl⟩
    rw [Hl.out, if_pos (by omega)]
    try rfl
  · have hb' : decide ((4294967295 : Int) < (n : Int) + 8) = true := by simp; omega
    go_enter Try.func19, Try.ntmps19
    go_wp2_with (go_at_call 21; refine (refin_calls _).mono ?_; rintro e w' ⟨rfl, rfl⟩)
    go_ret
    refine ⟨?_, rfl⟩
    rw [Hl.out, if_neg (by omega)]
    try rfl
end Go.Proofs.Ytolgfemjpkgloaa
