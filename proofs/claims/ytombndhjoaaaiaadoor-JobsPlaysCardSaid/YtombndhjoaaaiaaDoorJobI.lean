/- The walks of layer 16: what the laws call besides. -/
import Derived.Test.YtombndhjoaaaiaaDoorJobH
import Derived.Test.YtombndhjoaaaiaaDoorZeros
import Derived.Test.YtombndhjoaaaiaaDoorJobFullM
namespace Go.Proofs.YtombndhjoaaaiaaDoor
open Go.RowKit Go.Quad _root_.Quad _root_.Quad.Ink

def zreq : Array Value := #[.int .u8 0, .int .u32 0, .int .u8 0, .int .u8 0, .int .i64 0, .int .i64 0, .int .u32 0]
theorem info_req : (Tryd.prog.info? 34).map (fun i => (i.zero, i.size)) = some (some (.agg zreq), 7) := by kernel_rfl
theorem size_req : (Tryd.prog.info? 34).map (·.size) = some 7 := by kernel_rfl
theorem row_req : ∃ d, Tryd.prog.underlying 34 = some d ∧ d.isRow = true := ⟨_, Tryd.underlying34, rfl⟩
theorem reqV_one (q : ReqD) : ∀ u ∈ reqV q, u.oneCell' = true := by
  intro u hu
  simp only [reqV, List.mem_cons, List.not_mem_nil, or_false] at hu
  rcases hu with rfl | rfl | rfl | rfl | rfl | rfl | rfl <;> rfl

set_option maxRecDepth 100000 in
set_option maxHeartbeats 4000000 in
theorem subreq_calls (w : World) (s : Nat) (_hs : s < 4294967296) :
    Calls Tryd.prog 15 #[.int .u32 (s : Int)] w fun e w' => e = .returned (.agg (reqV (subQ s)).toArray) ∧ Below w.heap.size w w' := by
  obtain ⟨z, hz⟩ : ∃ z, w.heap.size = z := ⟨_, rfl⟩
  have B0 := hid (below_alloc w (.cells (reqV (subQ s)).toArray 34))
  have K0 := hid (show Blk (w.alloc (.cells (reqV (subQ s)).toArray 34)) z (reqV (subQ s)) 34 from by rw [← hz]; exact blk_alloc w (reqV (subQ s)) 34)
  have HZ := hid hz
  clear hz
  go_enter Tryd.func15, Tryd.ntmps15
  repeat (first | (refine wpListQ_alloc (o := ⟨some 2, _, _, _, _, _⟩) 34 rfl rfl zreq 7 info_req ?_) | (refine wpListQ_store_new (o := ⟨none, _, 0, _, _, _⟩) rfl 34 (.tmp 2) (.tmp 4) rfl zreq (reqV (subQ s)).toArray rfl rfl size_req rfl (all_oneCell_toArray (reqV_one _)) ?_) | go_step)
  simp only [HZ.out]
  generalize (w.alloc (.cells (reqV (subQ s)).toArray 34)) = w1 at B0 K0 ⊢
  refine bodyPost_ret (v := .agg (reqV (subQ s)).toArray) (results_blk (fn := Tryd.f15) (p := 2) (ty := 34) rfl _ z (reqV (subQ s)) 34 rfl K0.out row_req size_req) rfl ?_
  exact ⟨rfl, HZ.out ▸ B0.out⟩

set_option maxRecDepth 100000 in
set_option maxHeartbeats 4000000 in
theorem jclone_calls (w : World) (B : Nat) (v : Value) (l : List JobD) (h : JR w B v l) (hl : l.length ≤ 1000) :
    Calls Tryd.prog 43 #[v] w fun e w' => ∃ v', e = .returned v' ∧ w'.ownsRow w.heap.size 37 6 v' l.length (l.flatMap jobV) ∧ Below w.heap.size w w' := by
  obtain ⟨a, n, cap, rfl, hn, hnc, hcs⟩ := h.cs
  subst hn
  have e1 := fun w => Lib.run_eql_slice_nil (P := Tryd.prog) w 43 37 a l.length cap 0 0 under_jobs
  have hf := flat6 l
  cases a with
  | none =>
    have hl0 : l = [] := by
      have h1 := hcs.fit; have h2 := hcs.none rfl
      rw [hf] at h1
      exact List.eq_nil_of_length_eq_zero (by omega)
    subst hl0
    simp only [List.length_nil, Option.isNone_none] at e1 ⊢
    go_enter Tryd.func43, Tryd.ntmps43
    go_wp2_with fail
    go_ret
    exact ⟨_, rfl, World.ownsRow_nil w _ _ _, Below.refl _ _⟩
  | some x =>
    have HC := hid hcs
    have HL := hid hl
    have HF := hid hf
    have HN := hid hnc
    clear h hcs hl hf hnc
    go_enter Tryd.func43, Tryd.ntmps43
    go_wp2_with (at_builtin; go_must (refine wpList_append_litE (.tmp 5) (.tmp 6) 43 rfl rfl 37 _ 6 40 info_jobs rfl (by decide) under_jobs rfl HC.out HF.out HN.out rfl (fun u hu => by obtain ⟨j, _, hj⟩ := List.mem_flatMap.1 hu; exact jobV_one j u hj) (by have := HL.out; unfold maxLen; omega) (by have := HL.out; omega) ?_; intro v5 w5 ho hb))
    go_ret
    exact ⟨_, rfl, ho, hb⟩

set_option maxRecDepth 100000 in
set_option maxHeartbeats 4000000 in
theorem over_calls (w : World) (B T b : Nat) (ov : Value) (t : TbD) (h : IsTb w B T b ov t) :
    Calls Tryd.prog 16 #[.pointer (some ⟨T, 0, none⟩)] w fun e w' => ∃ v', e = .returned v' ∧ w'.ownsRow w.heap.size 37 6 v' t.over.length (t.over.flatMap jobV) ∧ Below w.heap.size w w' := by
  have hC := hid (jclone_calls w B ov t.over h.over (by have := h.ok.few.2; omega))
  have c3 := h.own.get 3 rfl
  clear h
  go_enter Tryd.func16, Tryd.ntmps16
  go_wp2_with (go_at_call 43; go_loud (refine hC.out.mono ?_; rintro e w8 ⟨v8, rfl, ho, hb⟩))
  go_ret
  exact ⟨_, rfl, ho, hb⟩

end Go.Proofs.YtombndhjoaaaiaaDoor
