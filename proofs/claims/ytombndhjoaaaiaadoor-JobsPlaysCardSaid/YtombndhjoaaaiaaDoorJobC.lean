/- The walks of layer 16: one that is active; a job is over; its credit. -/
import Derived.Test.YtombndhjoaaaiaaDoorJobB
import Derived.StillTailTactics
import Derived.Deep.RegionLaw
namespace Go.Proofs.YtombndhjoaaaiaaDoor
open Go.RowKit Go.Quad _root_.Quad _root_.Quad.Ink

def getO (o : Option JobD) : JobD × Int :=
  match o with
  | none => (jobZ, 6)
  | some j => if 4 ≤ j.state then (j, 10) else (j, 0)
theorem getT_O (t : TbD) (id : Nat) : getT t id = getO (jobT t id) := by
  unfold getT getO
  cases jobT t id <;> rfl
def getRes (r : JobD × Int) : Value := .tuple #[.agg (jobV r.1).toArray, .int .i64 r.2]

set_option maxRecDepth 100000 in
set_option maxHeartbeats 2000000 in
theorem get_any (w : World) (p : Value) (id : Nat) (o : Option JobD) (hs : ∀ j, o = some j → j.state < 256)
    (hJ : ∀ W, Below w.heap.size w W → Calls Tryd.prog 13 #[p, .int .u32 (id : Int)] W fun e w' => e = .returned (jobRes o) ∧ Below W.heap.size W w') :
    Calls Tryd.prog 40 #[p, .int .u32 (id : Int)] w fun e w' => e = .returned (getRes (getO o)) ∧ Below w.heap.size w w' := by
  obtain ⟨z, hz⟩ : ∃ z, w.heap.size = z := ⟨_, rfl⟩
  have K0 := hid (show Blk (w.alloc (.cells zjob 37)) z (jobV jobZ) 37 from by rw [← hz]; exact blk_alloc w (jobV jobZ) 37)
  have B0 := hid (below_alloc w (.cells zjob 37))
  have Z0 := hid (show w.heap.size ≤ z from Nat.le_of_eq hz)
  go_enter Tryd.func40, Tryd.ntmps40
  go_upto_region 1 with (refine wpListQ_alloc (o := ⟨some 4, _, _, _, _, _⟩) 37 rfl rfl zjob 6 info_job ?_)
  clear hz
  generalize (w.alloc (.cells zjob 37)) = w0 at K0 B0 ⊢
  go_upto_region 2 with (first | (go_at_call 13; go_loud (refine (hJ _ B0.out).mono ?_; rintro e w2 ⟨rfl, hb2⟩; have B2 := hid (B0.out.trans (hb2.mono B0.out.size)); have K2 := hid (K0.out.below hb2); clear hb2; simp only [jobRes])) | (refine wpListQ_alloc (o := ⟨some 6, _, _, _, _, _⟩) 37 rfl rfl zjob 6 info_job ?_) | (refine wpListQ_store_new (o := ⟨none, _, 0, _, _, _⟩) rfl 37 (.tmp 6) (.tmp 12) rfl zjob (jobV (o.getD jobZ)).toArray rfl rfl size_job rfl (all_oneCell_toArray (jobV_one _)) ?_))
  obtain ⟨z6, hz6⟩ : ∃ z6, w2.heap.size = z6 := ⟨_, rfl⟩
  have b6 := below_alloc w2 (.cells (jobV (o.getD jobZ)).toArray 37)
  have K6 := hid (show Blk (w2.alloc (.cells (jobV (o.getD jobZ)).toArray 37)) z6 (jobV (o.getD jobZ)) 37 from by rw [← hz6]; exact blk_alloc w2 (jobV (o.getD jobZ)) 37)
  have K06 := hid (K2.out.below b6)
  have B6 := hid (B2.out.trans (b6.mono B2.out.size))
  rw [hz6]
  generalize (w2.alloc (.cells (jobV (o.getD jobZ)).toArray 37)) = w6 at K6 K06 B6 ⊢
  clear b6 hz6 hJ K0 B0 K2 B2
  cases o with
  | none =>
    have eN : getO none = (jobZ, 6) := rfl
    have EN := hid eN
    clear eN
    simp only [Option.getD_none, Option.isSome_none] at K6 ⊢
    go_upto_region 3 with fail
    repeat (first | (refine wpList_load_blk (o := ⟨some 17, _, _, _, _, _⟩) 37 (.tmp 6) rfl rfl z6 (jobV jobZ) 37 rfl K6.out row_job size_job ?_) | (refine wpList_store_blk (o := ⟨none, _, 0, _, _, _⟩) 37 (.tmp 4) (.tmp 17) rfl rfl z (jobV jobZ) (jobV jobZ) 37 rfl rfl K06.out rfl size_job (jobV_one _) ?_; intro w9 hZ9 hC9) | go_step)
    refine bodyPost_ret (v := .tuple #[.agg (jobV jobZ).toArray, .int .i64 6]) (results_blk2 (fn := Tryd.f40) (p := 4) (q := 5) (ty := 37) rfl _ z (jobV jobZ) 37 (.int .i64 6) rfl rfl hZ9 row_job size_job) rfl ?_
    exact ⟨by rw [EN.out]; rfl, blk_below_set B6.out hC9 Z0.out⟩
  | some j =>
    have hst := hs j rfl
    have hst' : (j.state : Int) ≤ 255 := by omega
    simp only [Option.getD_some, Option.isSome_some] at K6 ⊢
    have c4 := K6.out.get 4 rfl
    clear hs
    by_cases h4 : 4 ≤ j.state
    · have h4' : (4 : Int) ≤ (j.state : Int) := by omega
      have EN := hid (show getO (some j) = (j, 10) from by unfold getO; simp only [if_pos h4])
      clear h4
      go_upto_region 5 with fail
      repeat (first | (refine wpList_load_blk (o := ⟨some 22, _, _, _, _, _⟩) 37 (.tmp 6) rfl rfl z6 (jobV j) 37 rfl K6.out row_job size_job ?_) | (refine wpList_store_blk (o := ⟨none, _, 0, _, _, _⟩) 37 (.tmp 4) (.tmp 22) rfl rfl z (jobV jobZ) (jobV j) 37 rfl rfl K06.out rfl size_job (jobV_one _) ?_; intro w9 hZ9 hC9) | go_step)
      refine bodyPost_ret (v := .tuple #[.agg (jobV j).toArray, .int .i64 10]) (results_blk2 (fn := Tryd.f40) (p := 4) (q := 5) (ty := 37) rfl _ z (jobV j) 37 (.int .i64 10) rfl rfl hZ9 row_job size_job) rfl ?_
      exact ⟨by rw [EN.out]; rfl, blk_below_set B6.out hC9 Z0.out⟩
    · have h4' : ¬ ((4 : Int) ≤ (j.state : Int)) := by omega
      have EN := hid (show getO (some j) = (j, 0) from by unfold getO; simp only [if_neg h4])
      clear h4
      go_upto_region 6 with fail
      repeat (first | (refine wpList_load_blk (o := ⟨some 23, _, _, _, _, _⟩) 37 (.tmp 6) rfl rfl z6 (jobV j) 37 rfl K6.out row_job size_job ?_) | (refine wpList_store_blk (o := ⟨none, _, 0, _, _, _⟩) 37 (.tmp 4) (.tmp 23) rfl rfl z (jobV jobZ) (jobV j) 37 rfl rfl K06.out rfl size_job (jobV_one _) ?_; intro w9 hZ9 hC9) | go_step)
      refine bodyPost_ret (v := .tuple #[.agg (jobV j).toArray, .int .i64 0]) (results_blk2 (fn := Tryd.f40) (p := 4) (q := 5) (ty := 37) rfl _ z (jobV j) 37 (.int .i64 0) rfl rfl hZ9 row_job size_job) rfl ?_
      exact ⟨by rw [EN.out]; rfl, blk_below_set B6.out hC9 Z0.out⟩

theorem jobT_small {t : TbD} (ht : t.Ok) {id : Nat} {j : JobD} (h : jobT t id = some j) : j.state < 256 := by
  rcases (jobT_some h).1 with h | h
  · have := ht.st j h; omega
  · have := ht.ost j h; omega
theorem get_calls (w : World) (B T b : Nat) (ov : Value) (t : TbD) (id : Nat) (h : IsTb w B T b ov t) (hI : id < 4294967296) :
    Calls Tryd.prog 40 #[.pointer (some ⟨T, 0, none⟩), .int .u32 (id : Int)] w fun e w' => e = .returned (getRes (getT t id)) ∧ Below w.heap.size w w' := by
  rw [getT_O]
  exact get_any w _ id _ (fun j hj => jobT_small h.ok hj) fun W hW => job_calls W B T b ov t id (h.below hW) hI
theorem nilget_calls (w : World) (id : Nat) : Calls Tryd.prog 40 #[.pointer none, .int .u32 (id : Int)] w fun e w' => e = .returned (getRes (jobZ, 6)) ∧ Below w.heap.size w w' :=
  get_any w _ id none (fun j hj => by cases hj) fun W _ => niljob_calls W id
end Go.Proofs.YtombndhjoaaaiaaDoor
