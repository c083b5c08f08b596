/- The walks of layer 5: a new slab, what it tells, when the power goes. -/
import Derived.Test.YtoegnlabneafkaaSlabA
namespace Go.Proofs.Ytoegnlabneafkaa
open Go.RowKit Go.Quad _root_.Quad.Slab

theorem under_sectors : Try.prog.underlying 60 = some (.slice 66) := by kernel_rfl
theorem under_writes : Try.prog.underlying 61 = some (.slice 68) := by kernel_rfl
def zero128 : Array Value := Array.replicate 128 (.int .u8 0)
theorem info_sector : (Try.prog.info? 66).map (fun i => (i.zero, i.size, i.bytes)) = some (some (.agg zero128), 128, 128) := by kernel_rfl

theorem zero128_list : zero128.toList = bV (List.replicate 128 0) := by
  unfold zero128 bV
  rw [Array.toList_replicate, List.map_replicate]
  rfl
theorem bV_length (p : List UInt8) : (bV p).length = p.length := by simp [bV]

theorem made_sectors (n : Nat) : (madeCells (Value.agg zero128).cells (n * 128)).toList = (List.replicate n (List.replicate 128 (0 : UInt8))).flatMap bV := by
  have h := made_flat zero128 n (by simp [zero128])
  rw [show zero128.size = 128 from by simp [zero128], zero128_list] at h
  rw [show (Value.agg zero128).cells = zero128 from rfl, h, List.flatMap_def, List.map_replicate]

theorem ok_new (n : Nat) (h : n ≤ 4096) : Ok (newL n) := by
  refine ⟨fun p hp => ?_, by simp [newL], by simp [newL]; exact h, by simp [newL], by simp [newL], by simp [newL]⟩
  simp only [newL, List.mem_replicate] at hp
  rw [hp.2]; simp

theorem newslabnil_calls (w : World) (n : Int) (h : n < 1 ∨ 4096 < n) : Calls Try.prog 9 #[.int .i64 n] w fun e w' => e = .returned (.tuple #[.pointer none, .int .i64 1]) ∧ w = w' := by
  by_cases h1 : n < 1
  · go_enter Try.func9, Try.ntmps9
    go_wp2_with fail
    go_ret2
    exact ⟨rfl, rfl⟩
  · have h1' : decide (n < 1) = false := by simpa using h1
    have h2 : 4096 < n := by omega
    go_enter Try.func9, Try.ntmps9
    go_wp2_with fail
    go_ret2
    exact ⟨rfl, rfl⟩

def NewSlabTo (w : World) (n : Nat) (e : Ending) (w' : World) : Prop :=
  ∃ g d, e = .returned (.tuple #[.pointer (some ⟨g, 0, none⟩), .int .i64 0]) ∧ IsSlab w' w.heap.size g d (.slice none 0 0) (newL n) ∧ Below w.heap.size w w'

theorem newslab_calls (w : World) (n : Nat) (h : 1 ≤ n ∧ n ≤ 4096) : Calls Try.prog 9 #[.int .i64 (n : Int)] w (NewSlabTo w n) := by
  obtain ⟨i0, hi, hz0, hz1, hz2⟩ := info_parts info_sector
  have Hi := hid hi; have Hz0 := hid hz0; have Hz1 := hid hz1; have Hz2 := hid hz2
  have h1 : ¬ ((n : Int) < 1) := by omega
  have h2 : ¬ (4096 < (n : Int)) := by omega
  clear hi hz0 hz1 hz2
  go_enter Try.func9, Try.ntmps9
  go_wp2_with (at_make; go_must (refine wpList_make_full _ rfl (.tmp 10) (.tmp 10) _ rfl w.heap.size 66 i0 (.agg zero128) 128 under_sectors Hi.out Hz0.out Hz1.out .i64 .i64 _ _ n rfl rfl (by omega) (by omega) (by rw [Hz2.out]; omega) (by unfold maxLen; omega) (Nat.le_refl _) ?_; intro w1 hown hgr))
  have hb1 : Below w.heap.size w w1 := grownBy_below hgr (Nat.le_refl _) (by simp)
  have hB := blk_of_owned hown
  rw [made_sectors] at hB
  have hlt := hB.lt
  have HB := hid hB
  have Hb1 := hid hb1
  clear hown hgr hB hb1
  go_ret2
  have hl : (newL n).done.length = n := by simp [newL]
  refine ⟨w1.heap.size, w.heap.size, rfl, ⟨?_, HB.out.below (below_alloc w1 _), World.ownsRow_nil _ _ _ _, ok_new n h.2, ⟨Hb1.out.size, Nat.le_refl _⟩, by omega, by simp [Value.ownBlock], by simp [Value.ownBlock]⟩, Hb1.out.trans ((below_alloc w1 _).mono Hb1.out.size)⟩
  rw [hl]
  exact blk_alloc w1 [.slice (some ⟨w.heap.size, 0, none⟩) n n, .slice none 0 0, .bool false, .int .i64 0, .int .i64 0] _

theorem nillen_calls (w : World) : Calls Try.prog 25 #[.pointer none] w fun e w' => e = .returned (.int .i64 0) ∧ w = w' := by
  go_enter Try.func25, Try.ntmps25
  go_wp2_with fail
  go_ret
  exact ⟨rfl, rfl⟩

theorem len_calls (w : World) (B g d : Nat) (wv : Value) (s : Sl) (h : IsSlab w B g d wv s) :
    Calls Try.prog 25 #[.pointer (some ⟨g, 0, none⟩)] w fun e w' => e = .returned (.int .i64 (s.done.length : Int)) ∧ w = w' := by
  have c0 := h.own.get 0 rfl
  clear h
  go_enter Try.func25, Try.ntmps25
  go_wp2_with fail
  go_ret
  exact ⟨rfl, rfl⟩

theorem nilon_calls (w : World) : Calls Try.prog 17 #[.pointer none] w fun e w' => e = .returned (.bool false) ∧ w = w' := by
  go_enter Try.func17, Try.ntmps17
  go_wp2_with fail
  go_ret
  exact ⟨rfl, rfl⟩

theorem on_calls (w : World) (B g d : Nat) (wv : Value) (s : Sl) (h : IsSlab w B g d wv s) :
    Calls Try.prog 17 #[.pointer (some ⟨g, 0, none⟩)] w fun e w' => e = .returned (.bool (!s.off)) ∧ w = w' := by
  have c2 := h.own.get 2 rfl
  clear h
  go_enter Try.func17, Try.ntmps17
  go_wp2_with fail
  go_ret
  exact ⟨rfl, rfl⟩

theorem nilsteps_calls (w : World) : Calls Try.prog 18 #[.pointer none] w fun e w' => e = .returned (.int .i64 0) ∧ w = w' := by
  go_enter Try.func18, Try.ntmps18
  go_wp2_with fail
  go_ret
  exact ⟨rfl, rfl⟩

theorem steps_calls (w : World) (B g d : Nat) (wv : Value) (s : Sl) (h : IsSlab w B g d wv s) :
    Calls Try.prog 18 #[.pointer (some ⟨g, 0, none⟩)] w fun e w' => e = .returned (.int .i64 (s.steps : Int)) ∧ w = w' := by
  have c4 := h.own.get 4 rfl
  clear h
  go_enter Try.func18, Try.ntmps18
  go_wp2_with fail
  go_ret
  exact ⟨rfl, rfl⟩

theorem nilway_calls (w : World) : Calls Try.prog 26 #[.pointer none] w fun e w' => e = .returned (.int .i64 0) ∧ w = w' := by
  go_enter Try.func26, Try.ntmps26
  go_wp2_with fail
  go_ret
  exact ⟨rfl, rfl⟩

theorem way_calls (w : World) (B g d : Nat) (wv : Value) (s : Sl) (h : IsSlab w B g d wv s) :
    Calls Try.prog 26 #[.pointer (some ⟨g, 0, none⟩)] w fun e w' => e = .returned (.int .i64 (s.way.length : Int)) ∧ w = w' := by
  have c1 := h.own.get 1 rfl
  obtain ⟨wa, wc, rfl, _⟩ := ownsRow_cs h.way
  clear h
  go_enter Try.func26, Try.ntmps26
  go_wp2_with fail
  go_ret
  exact ⟨rfl, rfl⟩

theorem nilarm_calls (w : World) (n : Int) : Calls Try.prog 15 #[.pointer none, .int .i64 n] w fun e w' => e = .returned (.int .i64 6) ∧ w = w' := by
  go_enter Try.func15, Try.ntmps15
  go_wp2_with fail
  go_ret
  exact ⟨rfl, rfl⟩

theorem arm_calls (w : World) (B g d : Nat) (wv : Value) (s : Sl) (n : Int) (h : IsSlab w B g d wv s) (hn : n ≤ 9223372036854775807) :
    Calls Try.prog 15 #[.pointer (some ⟨g, 0, none⟩), .int .i64 n] w fun e w' => e = .returned (.int .i64 ((armL s n).2 : Int)) ∧ IsSlab w' B g d wv (armL s n).1 ∧ Chg [g] w w' := by
  have f3 := h.own.free 3
  have c3 := h.own.get 3 rfl
  have H := hid h
  clear h
  by_cases h0 : n < 0
  · rw [show armL s n = (s, 1) from if_pos h0]
    go_enter Try.func15, Try.ntmps15
    go_wp2_with fail
    go_ret
    exact ⟨rfl, H.out, Chg.refl _ _⟩
  · obtain ⟨k, rfl⟩ : ∃ k : Nat, n = k := ⟨n.toNat, by omega⟩
    have e : armL s k = ({ s with armed := k }, 0) := by unfold armL; rw [if_neg h0, Int.toNat_natCast]
    rw [e]
    have hB := H.out.own.set 3 (.int .i64 (k : Int))
    have hput := hid (H.out.put (s' := { s with armed := k }) (chg_setCell w g 3 (.int .i64 (k : Int))) (by simpa using hB) rfl rfl ⟨H.out.ok.sec, H.out.ok.wsec, H.out.ok.small, H.out.ok.wsmall, H.out.ok.ssmall, by dsimp only; omega⟩)
    clear hB e hn
    go_enter Try.func15, Try.ntmps15
    go_wp2_with fail
    go_ret
    exact ⟨rfl, hput.out, chg_setCell w g 3 _⟩
end Go.Proofs.Ytoegnlabneafkaa
