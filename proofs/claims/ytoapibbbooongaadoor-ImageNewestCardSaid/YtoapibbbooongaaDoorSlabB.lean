/- The walks of layer 5: a new slab, what it tells, when the power goes. -/
import Derived.Test.YtoapibbbooongaaDoorSlabA
namespace Go.Proofs.YtoapibbbooongaaDoor
open Go.RowKit Go.Quad _root_.Quad.Slab

theorem under_sectors : Tryd.prog.underlying 86 = some (.slice 114) := by kernel_rfl
theorem under_writes : Tryd.prog.underlying 87 = some (.slice 116) := by kernel_rfl
def zero128 : Array Value := Array.replicate 128 (.int .u8 0)
theorem info_sector : (Tryd.prog.info? 114).map (fun i => (i.zero, i.size, i.bytes)) = some (some (.agg zero128), 128, 128) := by kernel_rfl

theorem zero128_list : zero128.toList = bV (List.replicate 128 0) := by
  unfold zero128 bV
  rw [Array.toList_replicate, List.map_replicate]
  rfl
theorem bV_length (p : List UInt8) : (bV p).length = p.length := by simp [bV]

theorem made_sectors (n : Nat) : (madeCells (Value.agg zero128).cells (n * 128)).toList = (List.replicate n (List.replicate 128 (0 : UInt8))).flatMap bV := by
  have h := made_flat zero128 n (by simp [zero128])
  rw [show zero128.size = 128 from by simp [zero128], zero128_list] at h
  rw [show (Value.agg zero128).cells = zero128 from rfl, h, List.flatMap_def, List.map_replicate]

theorem ok_new (n : Nat) (h : n ≤ 4096) : Ok (newL n) := by
  refine ⟨fun p hp => ?_, by simp [newL], by simp [newL]; exact h, by simp [newL], by simp [newL], by simp [newL]⟩
  simp only [newL, List.mem_replicate] at hp
  rw [hp.2]; simp

theorem newslabnil_calls (w : World) (n : Int) (h : n < 1 ∨ 4096 < n) : Calls Tryd.prog 12 #[.int .i64 n] w fun e w' => e = .returned (.tuple #[.pointer none, .int .i64 1]) ∧ w = w' := by
  by_cases h1 : n < 1
  · go_enter Tryd.func12, Tryd.ntmps12
    go_wp2_with fail
    go_ret2
    exact ⟨rfl, rfl⟩
  · have h1' : decide (n < 1) = false := by simpa using h1
    have h2 : 4096 < n := by omega
    go_enter Tryd.func12, Tryd.ntmps12
    go_wp2_with fail
    go_ret2
    exact ⟨rfl, rfl⟩

def NewSlabTo (w : World) (n : Nat) (e : Ending) (w' : World) : Prop :=
  ∃ g d, e = .returned (.tuple #[.pointer (some ⟨g, 0, none⟩), .int .i64 0]) ∧ IsSlab w' w.heap.size g d (.slice none 0 0) (newL n) ∧ Below w.heap.size w w'

theorem newslab_calls (w : World) (n : Nat) (h : 1 ≤ n ∧ n ≤ 4096) : Calls Tryd.prog 12 #[.int .i64 (n : Int)] w (NewSlabTo w n) := by
  obtain ⟨i0, hi, hz0, hz1, hz2⟩ := info_parts info_sector
  have Hi := hid hi; have Hz0 := hid hz0; have Hz1 := hid hz1; have Hz2 := hid hz2
  have h1 : ¬ ((n : Int) < 1) := by omega
  have h2 : ¬ (4096 < (n : Int)) := by omega
  clear hi hz0 hz1 hz2
  go_enter Tryd.func12, Tryd.ntmps12
  go_wp2_with (at_make; go_must (refine wpList_make_full _ rfl (.tmp 10) (.tmp 10) _ rfl w.heap.size 114 i0 (.agg zero128) 128 under_sectors Hi.out Hz0.out Hz1.out .i64 .i64 _ _ n rfl rfl (by omega) (by omega) (by rw [Hz2.out]; omega) (by unfold maxLen; omega) (Nat.le_refl _) ?_; intro w1 hown hgr))
  have hb1 : Below w.heap.size w w1 := grownBy_below hgr (Nat.le_refl _) (by simp)
  have hB := blk_of_owned hown
  rw [made_sectors] at hB
  have hlt := hB.lt
  have HB := hid hB
  have Hb1 := hid hb1
  clear hown hgr hB hb1
  go_ret2
  have hl : (newL n).done.length = n := by simp [newL]
  refine ⟨w1.heap.size, w.heap.size, rfl, ⟨?_, HB.out.below (below_alloc w1 _), World.ownsRow_nil _ _ _ _, ok_new n h.2, ⟨Hb1.out.size, Nat.le_refl _⟩, by omega, by simp [Value.ownBlock], by simp [Value.ownBlock]⟩, Hb1.out.trans ((below_alloc w1 _).mono Hb1.out.size)⟩
  rw [hl]
  exact blk_alloc w1 [.slice (some ⟨w.heap.size, 0, none⟩) n n, .slice none 0 0, .bool false, .int .i64 0, .int .i64 0] _

theorem nillen_calls (w : World) : Calls Tryd.prog 44 #[.pointer none] w fun e w' => e = .returned (.int .i64 0) ∧ w = w' := by
  go_enter Tryd.func44, Tryd.ntmps44
  go_wp2_with fail
  go_ret
  exact ⟨rfl, rfl⟩

theorem len_calls (w : World) (B g d : Nat) (wv : Value) (s : Sl) (h : IsSlab w B g d wv s) :
    Calls Tryd.prog 44 #[.pointer (some ⟨g, 0, none⟩)] w fun e w' => e = .returned (.int .i64 (s.done.length : Int)) ∧ w = w' := by
  have c0 := h.own.get 0 rfl
  clear h
  go_enter Tryd.func44, Tryd.ntmps44
  go_wp2_with fail
  go_ret
  exact ⟨rfl, rfl⟩

theorem nilon_calls (w : World) : Calls Tryd.prog 45 #[.pointer none] w fun e w' => e = .returned (.bool false) ∧ w = w' := by
  go_enter Tryd.func45, Tryd.ntmps45
  go_wp2_with fail
  go_ret
  exact ⟨rfl, rfl⟩

theorem on_calls (w : World) (B g d : Nat) (wv : Value) (s : Sl) (h : IsSlab w B g d wv s) :
    Calls Tryd.prog 45 #[.pointer (some ⟨g, 0, none⟩)] w fun e w' => e = .returned (.bool (!s.off)) ∧ w = w' := by
  have c2 := h.own.get 2 rfl
  clear h
  go_enter Tryd.func45, Tryd.ntmps45
  go_wp2_with fail
  go_ret
  exact ⟨rfl, rfl⟩

end Go.Proofs.YtoapibbbooongaaDoor
