/- The walks of layer 16: the order of requests; what a job is. -/
import Derived.Test.YtombndhjoaaaiaaDoorJobE
import Derived.Deep.QuietTactic
import Derived.BigQuiet
import Derived.RegionTactic
import Derived.BigRegion
namespace Go.Proofs.YtombndhjoaaaiaaDoor
open Go.RowKit Go.Quad _root_.Quad _root_.Quad.Ink

theorem repV_length (r : RepD) : (repV r).length = 6 := rfl
theorem tb_last {t : TbD} (ht : t.Ok) (b : Nat) (ov : Value) {c : Nat} (hc : c < 8) {i : Nat} (hi : i < 6) : (tbV t b ov)[4 + c * 6 + i]? = (repV (t.last.getD c repZ))[i]? := by
  have hl := ht.last
  unfold tbV
  rw [List.getElem?_append_right (by simp; omega)]
  rw [show 4 + c * 6 + i - [Value.int .i64 t.nodes, .int .u32 (t.spent : Int), .map (some b), ov].length = c * 6 + i from by simp; omega]
  rw [flat_get repV 6 repV_length t.last c i (t.last.getD c repZ) (by rw [List.getD_eq_getElem?_getD, List.getElem?_eq_getElem (by omega)]; rfl) hi]
def reqA (q : ReqD) : Array Value := #[.int .u8 (q.client : Int), .int .u32 (q.seq : Int), .int .u8 (q.kind : Int), .int .u8 (q.tier : Int), .int .i64 q.k, .int .i64 q.w, .int .u32 (q.job : Int)]
theorem reqA_eq (q : ReqD) : reqA q = (reqV q).toArray := rfl

set_option maxRecDepth 100000 in
set_option maxHeartbeats 2000000 in
theorem order_calls (w : World) (B T b : Nat) (ov : Value) (t : TbD) (q : ReqD) (h : IsTb w B T b ov t) (hq : q.Ok) (hc : q.client < 8) :
    Calls Tryd.prog 35 #[.pointer (some ⟨T, 0, none⟩), .agg #[.int .u8 (q.client : Int), .int .u32 (q.seq : Int), .int .u8 (q.kind : Int), .int .u8 (q.tier : Int), .int .i64 q.k, .int .i64 q.w, .int .u32 (q.job : Int)]] w fun e w' => e = .returned (.int .i64 (orderT t q)) ∧ Below w.heap.size w w' := by
  obtain ⟨z, hz⟩ : ∃ z, w.heap.size = z := ⟨_, rfl⟩
  obtain ⟨L, hL⟩ : ∃ L, t.last.getD q.client repZ = L := ⟨_, rfl⟩
  have hLok : L.Ok := by
    rw [← hL, List.getD_eq_getElem?_getD, List.getElem?_eq_getElem (by rw [h.ok.last]; exact hc)]
    exact h.ok.lok _ (List.getElem_mem _)
  have hls := hLok.seq
  have hqs := hq.seq
  have b0 := below_alloc w (.cells #[.int .u8 (q.client : Int), .int .u32 (q.seq : Int), .int .u8 (q.kind : Int), .int .u8 (q.tier : Int), .int .i64 q.k, .int .i64 q.w, .int .u32 (q.job : Int)] 34)
  have K0 := blk_alloc w (reqV q) 34
  have cl := (h.own.below b0).get (4 + q.client * 6 + 1) (by rw [tb_last h.ok b ov hc (by omega), hL]; rfl)
  have eo : orderT t q = if q.seq = 0 then 1 else if q.seq < L.seq then 12 else if 1 < q.seq - L.seq then 11 else 0 := by unfold orderT; rw [hL]
  have EO := hid eo
  have BB := hid b0
  have k0 := K0.get 0 rfl
  have k1 := K0.get 1 rfl
  rw [hz] at k0 k1
  have hc' : (q.client : Int) < 8 := by omega
  have hls' : (L.seq : Int) ≤ 4294967295 := by omega
  have hqs' : (q.seq : Int) ≤ 4294967295 := by omega
  clear b0 K0 eo h hLok
  go_enter Tryd.func35, Tryd.ntmps35
  go_upto_region 1 with fail
  go_quiet (fail)
  have B1 := hid (below_drewN BB.out nq)
  have j1 := k1
  clear cl k0 k1
  have k1 : ((w.alloc (.cells #[.int .u8 (q.client : Int), .int .u32 (q.seq : Int), .int .u8 (q.kind : Int), .int .u8 (q.tier : Int), .int .i64 q.k, .int .i64 q.w, .int .u32 (q.job : Int)] 34)).drewN nq).cell? ⟨z, 1, none⟩ = some (.int .u32 (q.seq : Int)) := by
    rw [← hz] at j1 ⊢
    exact ((blk_alloc w (reqV q) 34).below (below_drewN (Below.refl _ _) nq)).get 1 rfl
  clear j1 hz
  generalize ((w.alloc (.cells #[.int .u8 (q.client : Int), .int .u32 (q.seq : Int), .int .u8 (q.kind : Int), .int .u8 (q.tier : Int), .int .i64 q.k, .int .i64 q.w, .int .u32 (q.job : Int)] 34)).drewN nq) = w1 at k1 B1 ⊢
  by_cases h0 : q.seq = 0
  · have e0 : ((q.seq : Int) == 0) = true := by simp; exact h0
    have EO2 := hid (EO.out.trans (by rw [if_pos h0]))
    clear h0 EO
    go_wp2_with fail
    go_ret
    exact ⟨by rw [EO2.out]; rfl, B1.out⟩
  have e0 : ((q.seq : Int) == 0) = false := by simp; exact h0
  by_cases h1 : q.seq < L.seq
  · have e1 : (q.seq : Int) < (L.seq : Int) := by omega
    have EO2 := hid (EO.out.trans (by rw [if_neg h0, if_pos h1]))
    clear h0 h1 EO
    go_wp2_with fail
    go_ret
    exact ⟨by rw [EO2.out]; rfl, B1.out⟩
  have e1 : ¬ ((q.seq : Int) < (L.seq : Int)) := by omega
  obtain ⟨dq, hdq⟩ : ∃ dq : Nat, (q.seq : Int) - (L.seq : Int) = (dq : Int) ∧ q.seq - L.seq = dq := ⟨q.seq - L.seq, by omega, rfl⟩
  have DQ := hid hdq.1
  have hsub : 0 ≤ (q.seq : Int) - (L.seq : Int) ∧ (q.seq : Int) - (L.seq : Int) ≤ 4294967295 := by omega
  by_cases h2 : 1 < q.seq - L.seq
  · have e2 : (1 : Int) < (q.seq : Int) - (L.seq : Int) := by omega
    have EO2 := hid (EO.out.trans (by rw [if_neg h0, if_neg h1, if_pos h2]))
    clear h0 h1 h2 EO hdq
    go_wp2_with fail
    go_ret
    exact ⟨by rw [EO2.out]; rfl, B1.out⟩
  · have e2 : ¬ ((1 : Int) < (q.seq : Int) - (L.seq : Int)) := by omega
    have EO2 := hid (EO.out.trans (by rw [if_neg h0, if_neg h1, if_neg h2]))
    clear h0 h1 h2 EO hdq
    go_wp2_with fail
    go_ret
    exact ⟨by rw [EO2.out]; rfl, B1.out⟩

def zrep : Array Value := #[.int .u8 0, .int .u32 0, .int .i64 0, .int .u32 0, .int .u8 0, .int .i64 0]
theorem info_rep : (Tryd.prog.info? 30).map (fun i => (i.zero, i.size)) = some (some (.agg zrep), 6) := by kernel_rfl
theorem size_rep : (Tryd.prog.info? 30).map (·.size) = some 6 := by kernel_rfl
theorem row_rep : ∃ d, Tryd.prog.underlying 30 = some d ∧ d.isRow = true := ⟨_, Tryd.underlying30, rfl⟩
theorem repV_one (r : RepD) : ∀ u ∈ repV r, u.oneCell' = true := by
  intro u hu
  simp only [repV, List.mem_cons, List.not_mem_nil, or_false] at hu
  rcases hu with rfl | rfl | rfl | rfl | rfl | rfl <;> rfl
def queryO (o : Option JobD) (r : RepD) (id : Nat) : RepD :=
  match o with
  | none => { r with e := 6 }
  | some j => { r with job := id, state := j.state, credit := j.credit }
theorem queryT_O (t : TbD) (r : RepD) (id : Nat) : queryT t r id = queryO (jobT t id) r id := by
  unfold queryT queryO
  cases jobT t id <;> rfl

set_option maxRecDepth 100000 in
set_option maxHeartbeats 2000000 in
theorem query_any (w : World) (p : Value) (r : RepD) (id : Nat) (o : Option JobD)
    (hJ : ∀ W, Below w.heap.size w W → Calls Tryd.prog 13 #[p, .int .u32 (id : Int)] W fun e w' => e = .returned (jobRes o) ∧ Below W.heap.size W w') :
    Calls Tryd.prog 34 #[p, .agg (repV r).toArray, .int .u32 (id : Int)] w fun e w' => e = .returned (.agg (repV (queryO o r id)).toArray) ∧ Below w.heap.size w w' := by
  obtain ⟨z, hz⟩ : ∃ z, w.heap.size = z := ⟨_, rfl⟩
  have b0 := below_alloc w (.cells (repV r).toArray 30)
  have b1 := below_alloc (w.alloc (.cells (repV r).toArray 30)) (.cells zrep 30)
  have K0 := hid (show Blk ((w.alloc (.cells (repV r).toArray 30)).alloc (.cells zrep 30)) z (repV r) 30 from by rw [← hz]; exact (blk_alloc w (repV r) 30).below b1)
  have K1 := hid (show Blk ((w.alloc (.cells (repV r).toArray 30)).alloc (.cells zrep 30)) (z + 1) (repV repZ) 30 from by
    have := blk_alloc (w.alloc (.cells (repV r).toArray 30)) (repV repZ) 30
    rw [show (w.alloc (.cells (repV r).toArray 30)).heap.size = z + 1 from by simp [hz]] at this
    exact this)
  have B1 := hid (b0.trans (b1.mono b0.size))
  have Z0 := hid (show w.heap.size ≤ z from Nat.le_of_eq hz)
  clear b0 b1
  go_enter Tryd.func34, Tryd.ntmps34
  go_upto_region 1 with (refine wpListQ_alloc (o := ⟨some 6, _, _, _, _, _⟩) 30 rfl rfl zrep 6 info_rep ?_)
  have HS := hid (show (w.alloc (.cells (repV r).toArray 30)).heap.size = z + 1 from by simp [hz])
  clear hz
  simp only [Act.put, List.setIfInBounds_toArray, List.set_cons_succ, List.set_cons_zero, HS.out]
  generalize ((w.alloc (.cells (repV r).toArray 30)).alloc (.cells zrep 30)) = w1 at K0 K1 B1 ⊢
  clear HS
  go_upto_region 2 with (first | (go_at_call 13; go_loud (refine (hJ _ B1.out).mono ?_; rintro e w2 ⟨rfl, hb2⟩; have B2 := hid (B1.out.trans (hb2.mono B1.out.size)); have K02 := hid (K0.out.below hb2); have K12 := hid (K1.out.below hb2); clear hb2; simp only [jobRes])) | (refine wpListQ_alloc (o := ⟨some 7, _, _, _, _, _⟩) 37 rfl rfl zjob 6 info_job ?_) | (refine wpListQ_store_new (o := ⟨none, _, 0, _, _, _⟩) rfl 37 (.tmp 7) (.tmp 13) rfl zjob (jobV (o.getD jobZ)).toArray rfl rfl size_job rfl (all_oneCell_toArray (jobV_one _)) ?_))
  obtain ⟨z7, hz7⟩ : ∃ z7, w2.heap.size = z7 := ⟨_, rfl⟩
  have b7 := below_alloc w2 (.cells (jobV (o.getD jobZ)).toArray 37)
  have K7 := hid (show Blk (w2.alloc (.cells (jobV (o.getD jobZ)).toArray 37)) z7 (jobV (o.getD jobZ)) 37 from by rw [← hz7]; exact blk_alloc w2 (jobV (o.getD jobZ)) 37)
  have K07 := hid (K02.out.below b7)
  have K17 := hid (K12.out.below b7)
  have B7 := hid (B2.out.trans (b7.mono B2.out.size))
  have zne : z ≠ z7 := by have := K02.out.lt; omega
  rw [hz7]
  generalize (w2.alloc (.cells (jobV (o.getD jobZ)).toArray 37)) = w7 at K7 K07 K17 B7 ⊢
  clear b7 hz7 hJ K0 K1 B1 K02 K12 B2
  cases o with
  | none =>
    simp only [Option.getD_none, Option.isSome_none] at K7 ⊢
    have c2 := K07.out.get 2 rfl
    have f2 := K07.out.free 2
    have K8 := hid (show Blk (w7.setCell ⟨z, 2, none⟩ (.int .i64 6)) z (repV { r with e := 6 }) 30 from K07.out.set 2 (.int .i64 6))
    have K18 := hid (K17.out.keep (chg_setCell w7 z 2 (.int .i64 6)) (by simp))
    have B8 := hid (blk_below_set B7.out (chg_setCell w7 z 2 (.int .i64 6)) Z0.out)
    go_upto_region 4 with fail
    clear c2 f2
    generalize (w7.setCell ⟨z, 2, none⟩ (.int .i64 6)) = w8 at K8 K18 B8 ⊢
    repeat (first | (refine wpList_load_blk (o := ⟨some 18, _, _, _, _, _⟩) 30 (.tmp 4) rfl rfl z ((repV { r with e := 6 })) 30 rfl K8.out row_rep size_rep ?_) | (refine wpList_store_blk (o := ⟨none, _, 0, _, _, _⟩) 30 (.tmp 6) (.tmp 18) rfl rfl (z + 1) (repV repZ) (repV { r with e := 6 }) 30 rfl rfl K18.out rfl size_rep (repV_one _) ?_; intro w9 hZ9 hC9) | go_step)
    refine bodyPost_ret (v := .agg (repV { r with e := 6 }).toArray) (results_blk (fn := Tryd.f34) (p := 6) (ty := 30) rfl _ (z + 1) (repV { r with e := 6 }) 30 rfl hZ9 row_rep size_rep) rfl ?_
    exact ⟨rfl, blk_below_set B8.out hC9 (Nat.le_succ_of_le Z0.out)⟩
  | some j =>
    simp only [Option.getD_some, Option.isSome_some] at K7 ⊢
    have c3 := K07.out.get 3 rfl
    have c4 := K07.out.get 4 rfl
    have c5 := K07.out.get 5 rfl
    have f3 := K07.out.free 3
    have f4 := K07.out.free 4
    have f5 := K07.out.free 5
    have j4 := K7.out.get 4 rfl
    have j5 := K7.out.get 5 rfl
    go_upto_region 5 with fail
    go_region
    have hchg : Chg [z] w7 ((((w7.setCell ⟨z, 3, none⟩ (.int .u32 (id : Int))).setCell ⟨z, 4, none⟩ (.int .u8 (j.state : Int))).setCell ⟨z, 5, none⟩ (.int .i64 j.credit)).drew) := (((chg_setCell w7 z 3 _).trans (chg_setCell _ z 4 _)).trans (chg_setCell _ z 5 _)).trans (Chg.of_below _ (below_drew _))
    have K8 := hid (show Blk ((((w7.setCell ⟨z, 3, none⟩ (.int .u32 (id : Int))).setCell ⟨z, 4, none⟩ (.int .u8 (j.state : Int))).setCell ⟨z, 5, none⟩ (.int .i64 j.credit)).drew) z (repV { r with job := id, state := j.state, credit := j.credit }) 30 from ((((K07.out.set 3 (.int .u32 (id : Int))).set 4 (.int .u8 (j.state : Int))).set 5 (.int .i64 j.credit)).below (below_drew _)))
    have K18 := hid (K17.out.keep hchg (by simp))
    have B8 := hid (blk_below_set B7.out hchg Z0.out)
    clear c3 c4 c5 f3 f4 f5 j4 j5 hchg
    generalize (((w7.setCell ⟨z, 3, none⟩ (.int .u32 (id : Int))).setCell ⟨z, 4, none⟩ (.int .u8 (j.state : Int))).setCell ⟨z, 5, none⟩ (.int .i64 j.credit)).drew = w8 at K8 K18 B8 ⊢
    go_upto_region 6 with fail
    repeat (first | (refine wpList_load_blk (o := ⟨some 27, _, _, _, _, _⟩) 30 (.tmp 4) rfl rfl z ((repV { r with job := id, state := j.state, credit := j.credit })) 30 rfl K8.out row_rep size_rep ?_) | (refine wpList_store_blk (o := ⟨none, _, 0, _, _, _⟩) 30 (.tmp 6) (.tmp 27) rfl rfl (z + 1) (repV repZ) (repV { r with job := id, state := j.state, credit := j.credit }) 30 rfl rfl K18.out rfl size_rep (repV_one _) ?_; intro w9 hZ9 hC9) | go_step)
    refine bodyPost_ret (v := .agg (repV { r with job := id, state := j.state, credit := j.credit }).toArray) (results_blk (fn := Tryd.f34) (p := 6) (ty := 30) rfl _ (z + 1) (repV { r with job := id, state := j.state, credit := j.credit }) 30 rfl hZ9 row_rep size_rep) rfl ?_
    exact ⟨rfl, blk_below_set B8.out hC9 (Nat.le_succ_of_le Z0.out)⟩
end Go.Proofs.YtombndhjoaaaiaaDoor
