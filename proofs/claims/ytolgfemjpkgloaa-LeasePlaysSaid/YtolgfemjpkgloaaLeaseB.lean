/- The walks of layer 18: a new book, what it tells, its ticks. -/
import Derived.Test.YtolgfemjpkgloaaLeaseA
import Derived.Test.YtolgfemjpkgloaaLists
import Derived.Deep.DeepMust
namespace Go.Proofs.Ytolgfemjpkgloaa
open Go.RowKit Go.Quad _root_.Quad.Lease

theorem under_nodes : Try.prog.underlying 58 = some (.slice 64) := by kernel_rfl
theorem under_grants : Try.prog.underlying 31 = some (.slice 36) := by kernel_rfl
theorem under_ints : Try.prog.underlying 32 = some (.slice 3) := by kernel_rfl
theorem info_node : (Try.prog.info? 64).map (fun i => (i.zero, i.size, i.bytes)) = some (some (.agg #[.int .u8 0, .int .u32 0, .int .u32 0, .int .u32 0]), 4, 16) := by kernel_rfl
theorem info_grant : (Try.prog.info? 36).map (fun i => (i.zero, i.size, i.bytes)) = some (some (.agg #[.int .i64 0, .int .u32 0]), 2, 16) := by kernel_rfl
theorem info_int : (Try.prog.info? 3).map (fun i => (i.zero, i.size, i.bytes)) = some (some (.int .i64 0), 1, 8) := by kernel_rfl

/-- a grant's cells -/
def grV (x : Nat × Nat) : List Value := [.int .i64 (x.1 : Int), .int .u32 (x.2 : Int)]
theorem grV_length (x : Nat × Nat) : (grV x).length = 2 := rfl
theorem grV_one (x : Nat × Nat) : ∀ u ∈ grV x, u.oneCell' = true := by intro u hu; simp [grV] at hu; rcases hu with rfl | rfl <;> rfl
def inV (x : Nat) : List Value := [.int .i64 (x : Int)]
theorem inV_length (x : Nat) : (inV x).length = 1 := rfl
theorem inV_one (x : Nat) : ∀ u ∈ inV x, u.oneCell' = true := by intro u hu; simp [inV] at hu; subst hu; rfl

def nodeAt (l : List Nd) (i : Int) : Nd := if i < 0 ∨ (l.length : Int) ≤ i then zero else l.getD i.toNat zero

theorem newnil_calls (w : World) (n : Int) (h : n < 1 ∨ 16 < n) : Calls Try.prog 8 #[.int .i64 n] w fun e w' => e = .returned (.tuple #[.pointer none, .int .i64 1]) ∧ w = w' := by
  by_cases h1 : n < 1
  · go_enter Try.func8, Try.ntmps8
    go_wp2_with fail
    go_ret2
    exact ⟨rfl, rfl⟩
  · have h1' : decide (n < 1) = false := by simpa using h1
    have h2 : 16 < n := by omega
    go_enter Try.func8, Try.ntmps8
    go_wp2_with fail
    go_ret2
    exact ⟨rfl, rfl⟩

/-- a new book -/
def NewTo (w : World) (n : Nat) (e : Ending) (w' : World) : Prop :=
  ∃ g s, e = .returned (.tuple #[.pointer (some ⟨g, 0, none⟩), .int .i64 0]) ∧ IsBook w' g s (List.replicate n zero) ∧ w.heap.size ≤ s ∧ s < g ∧ Below w.heap.size w w'

theorem newbook_calls (w : World) (n : Nat) (h : 1 ≤ n ∧ n ≤ 16) : Calls Try.prog 8 #[.int .i64 (n : Int)] w (NewTo w n) := by
  obtain ⟨i0, hi, hz0, hz1, hz2⟩ := info_parts info_node
  have Hi := hid hi; have Hz0 := hid hz0; have Hz1 := hid hz1; have Hz2 := hid hz2
  have h1 : ¬ ((n : Int) < 1) := by omega
  have h2 : ¬ (16 < (n : Int)) := by omega
  clear hi hz0 hz1 hz2
  go_enter Try.func8, Try.ntmps8
  go_wp2_with (at_make; go_must (refine wpList_make_full _ rfl (.tmp 10) (.tmp 10) _ rfl w.heap.size 64 i0 (.agg #[.int .u8 0, .int .u32 0, .int .u32 0, .int .u32 0]) 4 under_nodes Hi.out Hz0.out Hz1.out .i64 .i64 _ _ n rfl rfl (by omega) (by omega) (by rw [Hz2.out]; omega) (by unfold maxLen; omega) (Nat.le_refl _) ?_; intro w1 hown hgr))
  have hb1 : Below w.heap.size w w1 := grownBy_below hgr (Nat.le_refl _) (by simp)
  have hB := blk_of_owned hown
  have e : (madeCells (Value.agg #[.int .u8 0, .int .u32 0, .int .u32 0, .int .u32 0]).cells (n * 4)).toList = (List.replicate n zero).flatMap ndV := by
    have := made_flat (Value.agg #[.int .u8 0, .int .u32 0, .int .u32 0, .int .u32 0]).cells n (by decide)
    rw [show (Value.agg #[.int .u8 0, .int .u32 0, .int .u32 0, .int .u32 0]).cells.size = 4 from rfl] at this
    rw [this, List.flatMap_def, List.map_replicate]
    rfl
  rw [e] at hB
  have hlt := hB.lt
  have HB := hid hB
  have Hb1 := hid hb1
  clear hown hgr e hB hb1
  go_ret2
  refine ⟨w1.heap.size, w.heap.size, rfl, ⟨?_, HB.out.below (below_alloc w1 _), by omega, ?_, by simp; omega⟩, Nat.le_refl _, hlt, Hb1.out.trans ((below_alloc w1 _).mono Hb1.out.size)⟩
  · rw [List.length_replicate]
    exact blk_alloc w1 [.slice (some ⟨w.heap.size, 0, none⟩) n n] _
  · intro q hq
    rw [List.mem_replicate] at hq
    rw [hq.2]
    exact ⟨by simp [zero], by simp [zero], by simp [zero], by simp [zero]⟩

theorem nilof_calls (w : World) (i : Int) : Calls Try.prog 17 #[.pointer none, .int .i64 i] w fun e w' => e = .returned (.pointer none) ∧ w = w' := by
  go_enter Try.func17, Try.ntmps17
  go_wp2_with fail
  go_ret
  exact ⟨rfl, rfl⟩

theorem nilhear_calls (w : World) (i now life : Int) : Calls Try.prog 9 #[.pointer none, .int .i64 i, .int .u32 now, .int .u32 life] w fun e w' => e = .returned (.tuple #[.bool false, .bool false]) ∧ w = w' := by
  go_enter Try.func9, Try.ntmps9
  go_wp2_with (go_at_call 17; refine (nilof_calls _ _).mono ?_; rintro e w' ⟨rfl, rfl⟩)
  go_ret2
  exact ⟨rfl, rfl⟩

theorem niltick_calls (w : World) (now : Int) : Calls Try.prog 10 #[.pointer none, .int .u32 now] w fun e w' => e = .returned (.tuple #[.slice none 0 0, .slice none 0 0]) ∧ w = w' := by
  go_enter Try.func10, Try.ntmps10
  go_wp2_with fail
  go_ret2
  exact ⟨rfl, rfl⟩

theorem nilstate_calls (w : World) (i : Int) : Calls Try.prog 11 #[.pointer none, .int .i64 i] w fun e w' => e = .returned (.int .u8 0) ∧ w = w' := by
  go_enter Try.func11, Try.ntmps11
  go_wp2_with (go_at_call 17; refine (nilof_calls _ _).mono ?_; rintro e w' ⟨rfl, rfl⟩)
  go_ret
  exact ⟨rfl, rfl⟩

set_option maxHeartbeats 400000 in
theorem state_calls (w : World) (g s : Nat) (l : List Nd) (i : Int) (h : IsBook w g s l) (hi : -9223372036854775808 ≤ i ∧ i ≤ 9223372036854775807) :
    Calls Try.prog 11 #[.pointer (some ⟨g, 0, none⟩), .int .i64 i] w fun e w' => e = .returned (.int .u8 ((nodeAt l i).st : Int)) ∧ w = w' := by
  have Hof := hid (of_calls w g s l i h hi)
  unfold nodeAt
  by_cases hout : i < 0 ∨ (l.length : Int) ≤ i
  · rw [if_pos hout]
    rw [if_pos hout] at Hof
    clear h hout
    go_enter Try.func11, Try.ntmps11
    go_wp2_with fail
    refine Hof.out.mono ?_
    rintro e w' ⟨rfl, rfl⟩
    go_wp2_with fail
    go_ret
    exact ⟨rfl, rfl⟩
  · rw [if_neg hout]
    rw [if_neg hout] at Hof
    obtain ⟨c0, c1, c2, c3⟩ := h.cells (i := i.toNat) (by omega)
    generalize l.getD i.toNat zero = x at c0 c1 c2 c3
    generalize i.toNat = k at Hof c0 c1 c2 c3
    clear h hout
    go_enter Try.func11, Try.ntmps11
    go_wp2_with fail
    refine Hof.out.mono ?_
    rintro e w' ⟨rfl, rfl⟩
    go_wp2_with fail
    go_ret
    exact ⟨rfl, rfl⟩

theorem nillife_calls (w : World) (i : Int) : Calls Try.prog 15 #[.pointer none, .int .i64 i] w fun e w' => e = .returned (.int .u32 0) ∧ w = w' := by
  go_enter Try.func15, Try.ntmps15
  go_wp2_with (go_at_call 17; refine (nilof_calls _ _).mono ?_; rintro e w' ⟨rfl, rfl⟩)
  go_ret
  exact ⟨rfl, rfl⟩

set_option maxHeartbeats 400000 in
theorem life_calls (w : World) (g s : Nat) (l : List Nd) (i : Int) (h : IsBook w g s l) (hi : -9223372036854775808 ≤ i ∧ i ≤ 9223372036854775807) :
    Calls Try.prog 15 #[.pointer (some ⟨g, 0, none⟩), .int .i64 i] w fun e w' => e = .returned (.int .u32 ((nodeAt l i).life : Int)) ∧ w = w' := by
  have Hof := hid (of_calls w g s l i h hi)
  unfold nodeAt
  by_cases hout : i < 0 ∨ (l.length : Int) ≤ i
  · rw [if_pos hout]
    rw [if_pos hout] at Hof
    clear h hout
    go_enter Try.func15, Try.ntmps15
    go_wp2_with fail
    refine Hof.out.mono ?_
    rintro e w' ⟨rfl, rfl⟩
    go_wp2_with fail
    go_ret
    exact ⟨rfl, rfl⟩
  · rw [if_neg hout]
    rw [if_neg hout] at Hof
    obtain ⟨c0, c1, c2, c3⟩ := h.cells (i := i.toNat) (by omega)
    generalize l.getD i.toNat zero = x at c0 c1 c2 c3
    generalize i.toNat = k at Hof c0 c1 c2 c3
    clear h hout
    go_enter Try.func15, Try.ntmps15
    go_wp2_with fail
    refine Hof.out.mono ?_
    rintro e w' ⟨rfl, rfl⟩
    go_wp2_with fail
    go_ret
    exact ⟨rfl, rfl⟩

theorem niluntil_calls (w : World) (i : Int) : Calls Try.prog 16 #[.pointer none, .int .i64 i] w fun e w' => e = .returned (.int .u32 0) ∧ w = w' := by
  go_enter Try.func16, Try.ntmps16
  go_wp2_with (go_at_call 17; refine (nilof_calls _ _).mono ?_; rintro e w' ⟨rfl, rfl⟩)
  go_ret
  exact ⟨rfl, rfl⟩

set_option maxHeartbeats 400000 in
theorem until_calls (w : World) (g s : Nat) (l : List Nd) (i : Int) (h : IsBook w g s l) (hi : -9223372036854775808 ≤ i ∧ i ≤ 9223372036854775807) :
    Calls Try.prog 16 #[.pointer (some ⟨g, 0, none⟩), .int .i64 i] w fun e w' => e = .returned (.int .u32 ((nodeAt l i).until' : Int)) ∧ w = w' := by
  have Hof := hid (of_calls w g s l i h hi)
  unfold nodeAt
  by_cases hout : i < 0 ∨ (l.length : Int) ≤ i
  · rw [if_pos hout]
    rw [if_pos hout] at Hof
    clear h hout
    go_enter Try.func16, Try.ntmps16
    go_wp2_with fail
    refine Hof.out.mono ?_
    rintro e w' ⟨rfl, rfl⟩
    go_wp2_with fail
    go_ret
    exact ⟨rfl, rfl⟩
  · rw [if_neg hout]
    rw [if_neg hout] at Hof
    obtain ⟨c0, c1, c2, c3⟩ := h.cells (i := i.toNat) (by omega)
    generalize l.getD i.toNat zero = x at c0 c1 c2 c3
    generalize i.toNat = k at Hof c0 c1 c2 c3
    clear h hout
    go_enter Try.func16, Try.ntmps16
    go_wp2_with fail
    refine Hof.out.mono ?_
    rintro e w' ⟨rfl, rfl⟩
    go_wp2_with fail
    go_ret
    exact ⟨rfl, rfl⟩
end Go.Proofs.Ytolgfemjpkgloaa
