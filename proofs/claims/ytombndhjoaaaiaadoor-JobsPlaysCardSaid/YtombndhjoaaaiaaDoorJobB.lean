/- The walks of layer 16: a job that is known, one that is active. -/
import Derived.Test.YtombndhjoaaaiaaDoorJobA
namespace Go.Proofs.YtombndhjoaaaiaaDoor
open Go.RowKit Go.Quad _root_.Quad _root_.Quad.Ink

def jobRes (o : Option JobD) : Value := .tuple #[.agg (jobV (o.getD jobZ)).toArray, .bool o.isSome]
theorem blk_below_set {w0 w w' : World} {z : Nat} (hb : Below w0.heap.size w0 w) (hc : Chg [z] w w') (hz : w0.heap.size ≤ z) : Below w0.heap.size w0 w' := hb.trans (hc.below hb.size (by intro k hk; simp at hk; subst hk; exact hz))

set_option maxRecDepth 100000 in
set_option maxHeartbeats 2000000 in
theorem niljob_calls (w : World) (id : Nat) : Calls Tryd.prog 13 #[.pointer none, .int .u32 (id : Int)] w fun e w' => e = .returned (jobRes none) ∧ Below w.heap.size w w' := by
  obtain ⟨z, hz⟩ : ∃ z, w.heap.size = z := ⟨_, rfl⟩
  have K0 := hid (show Blk (w.alloc (.cells zjob 37)) z (jobV jobZ) 37 from by rw [← hz]; exact blk_alloc w (jobV jobZ) 37)
  have B0 := hid (below_alloc w (.cells zjob 37))
  have Z0 := hid (show w.heap.size ≤ z from Nat.le_of_eq hz)
  go_enter Tryd.func13, Tryd.ntmps13
  go_upto_region 2 with (refine wpListQ_alloc (o := ⟨some 4, _, _, _, _, _⟩) 37 rfl rfl zjob 6 info_job ?_)
  clear hz
  generalize (w.alloc (.cells zjob 37)) = w0 at K0 B0 ⊢
  repeat (first | (refine wpList_store_blk (o := ⟨none, _, 0, _, _, _⟩) 37 (.tmp 4) (.tmp 11) rfl rfl z (jobV jobZ) (jobV jobZ) 37 rfl rfl K0.out rfl size_job (jobV_one _) ?_; intro w9 hZ9 hC9) | go_step)
  refine bodyPost_ret (v := .tuple #[.agg (jobV jobZ).toArray, .bool false]) (results_blk2 (fn := Tryd.f13) (p := 4) (q := 5) (ty := 37) rfl _ z (jobV jobZ) 37 (.bool false) rfl rfl hZ9 row_job size_job) rfl ?_
  exact ⟨rfl, blk_below_set B0.out hC9 Z0.out⟩

set_option maxRecDepth 100000 in
set_option maxHeartbeats 2000000 in
theorem job_calls (w : World) (B T b : Nat) (ov : Value) (t : TbD) (id : Nat) (h : IsTb w B T b ov t) (hI : id < 4294967296) :
    Calls Tryd.prog 13 #[.pointer (some ⟨T, 0, none⟩), .int .u32 (id : Int)] w fun e w' => e = .returned (jobRes (jobT t id)) ∧ Below w.heap.size w w' := by
  obtain ⟨z, hz⟩ : ∃ z, w.heap.size = z := ⟨_, rfl⟩
  have K0 := hid (show Blk (w.alloc (.cells zjob 37)) z (jobV jobZ) 37 from by rw [← hz]; exact blk_alloc w (jobV jobZ) 37)
  have B0 := hid (below_alloc w (.cells zjob 37))
  have Z0 := hid (show w.heap.size ≤ z from Nat.le_of_eq hz)
  have H := hid h
  obtain ⟨D, hD, hM⟩ := (h.below B0.out).map
  have HD := hid hD
  have c2 := (h.own.below B0.out).get 2 rfl
  have c3 := (h.own.below B0.out).get 3 rfl
  have hlt := h.own.lt
  clear h hD
  cases hf : t.active.find? (fun j => j.id == id) with
  | some j =>
    have ej : jobT t id = some j := by unfold jobT; rw [hf]; rfl
    obtain ⟨h1, h2⟩ := hM.found hf
    have HH := hid h1
    have HA := hid (h2 (jobDat jobZ))
    rw [ej]
    clear hf hM h1 h2 ej
    go_enter Tryd.func13, Tryd.ntmps13
    have hs0 : (w.alloc (.cells zjob 37)).heap.size = z + 1 := by simp [hz]
    go_upto_region 4 with (first | (refine wpListQ_alloc (o := ⟨some 4, _, _, _, _, _⟩) 37 rfl rfl zjob 6 info_job ?_) | (at_lookup; go_must (refine wpList_lookup_own_ok _ rfl _ _ 72 rfl 28 37 keyed32 Tryd.underlying72 jobR (zeroJob _) (jobDat jobZ) [] (jobR_mk jobZ) b _ D rfl HD.out (.int .u32 (id : Int)) (idK id) rfl (keyOf32 hI) ?_; intro v ps hv; rw [HA.out] at hv; obtain rfl := jobR_inv hv; rw [HH.out])) | (refine wpListQ_alloc (o := ⟨some 6, _, _, _, _, _⟩) 37 rfl rfl zjob 6 info_job ?_) | (refine wpListQ_store_new (o := ⟨none, _, 0, _, _, _⟩) rfl 37 (.tmp 6) (.tmp 19) rfl zjob (jobV j).toArray rfl rfl size_job rfl (all_oneCell_toArray (jobV_one _)) ?_))
    clear hz
    generalize (w.alloc (.cells zjob 37)) = w0 at K0 B0 c2 c3 HD hs0 ⊢
    have b6 := below_alloc w0 (.cells (jobV j).toArray 37)
    have K6 := hid (show Blk (w0.alloc (.cells (jobV j).toArray 37)) (z + 1) (jobV j) 37 from by rw [← hs0]; exact blk_alloc w0 (jobV j) 37)
    have K06 := hid (K0.out.below b6)
    have B6 := hid (B0.out.trans (b6.mono B0.out.size))
    generalize (w0.alloc (.cells (jobV j).toArray 37)) = w6 at K6 K06 B6 ⊢
    clear b6 c2 c3 HD hv hs0
    go_upto_region 5 with fail
    repeat (first | (refine wpList_load_blk (o := ⟨some 22, _, _, _, _, _⟩) 37 (.tmp 6) rfl rfl (z + 1) (jobV j) 37 rfl K6.out row_job size_job ?_) | (refine wpList_store_blk (o := ⟨none, _, 0, _, _, _⟩) 37 (.tmp 4) (.tmp 22) rfl rfl z (jobV jobZ) (jobV j) 37 rfl rfl K06.out rfl size_job (jobV_one _) ?_; intro w9 hZ9 hC9) | go_step)
    refine bodyPost_ret (v := .tuple #[.agg (jobV j).toArray, .bool true]) (results_blk2 (fn := Tryd.f13) (p := 4) (q := 5) (ty := 37) rfl _ z (jobV j) 37 (.bool true) rfl rfl hZ9 row_job size_job) rfl ?_
    exact ⟨rfl, blk_below_set B6.out hC9 Z0.out⟩
  | none =>
    obtain ⟨h1, h2⟩ := hM.missed hf
    have HH := hid h1
    have HA := hid (h2 (jobDat jobZ))
    have ej : jobT t id = t.over.find? (fun j => j.id == id) := by unfold jobT; rw [hf]; rfl
    rw [ej]
    clear hf hM h1 h2 ej
    go_enter Tryd.func13, Tryd.ntmps13
    have hs0 : (w.alloc (.cells zjob 37)).heap.size = z + 1 := by simp [hz]
    go_upto_region 4 with (first | (refine wpListQ_alloc (o := ⟨some 4, _, _, _, _, _⟩) 37 rfl rfl zjob 6 info_job ?_) | (at_lookup; go_must (refine wpList_lookup_own_ok _ rfl _ _ 72 rfl 28 37 keyed32 Tryd.underlying72 jobR (zeroJob _) (jobDat jobZ) [] (jobR_mk jobZ) b _ D rfl HD.out (.int .u32 (id : Int)) (idK id) rfl (keyOf32 hI) ?_; intro v ps hv; rw [HA.out] at hv; obtain rfl := jobR_inv hv; rw [HH.out])) | (refine wpListQ_alloc (o := ⟨some 6, _, _, _, _, _⟩) 37 rfl rfl zjob 6 info_job ?_) | (refine wpListQ_store_new (o := ⟨none, _, 0, _, _, _⟩) rfl 37 (.tmp 6) (.tmp 19) rfl zjob (jobV jobZ).toArray rfl rfl size_job rfl (all_oneCell_toArray (jobV_one _)) ?_))
    clear hz
    generalize (w.alloc (.cells zjob 37)) = w0 at K0 B0 c2 c3 HD hs0 ⊢
    have b6 := below_alloc w0 (.cells (jobV jobZ).toArray 37)
    have K06 := hid (K0.out.below b6)
    have B6 := hid (B0.out.trans (b6.mono B0.out.size))
    generalize (w0.alloc (.cells (jobV jobZ).toArray 37)) = w6 at K06 B6 ⊢
    clear b6 c2 c3 HD hv hs0
    have H6 := hid (H.out.below B6.out)
    have hC := hid (find_calls w6 B T b ov t id H6.out)
    go_upto_region 7 with (go_at_call 41; go_loud (refine hC.out.mono ?_; rintro e w7 ⟨r, rfl, hb7, hr⟩; have B7 := hid (B6.out.trans (hb7.mono B6.out.size)); have K7 := hid (K06.out.below hb7); have H7 := hid (H6.out.below hb7); have HR := hid hr; clear hb7 hr))
    rcases HR.out with ⟨rfl, hn⟩ | ⟨i, j, rfl, hj, hf⟩
    · have HN := hid hn
      clear hn HR hC H6
      go_upto_region 9 with fail
      repeat (first | (refine wpList_store_blk (o := ⟨none, _, 0, _, _, _⟩) 37 (.tmp 4) (.tmp 35) rfl rfl z (jobV jobZ) (jobV jobZ) 37 rfl rfl K7.out rfl size_job (jobV_one _) ?_; intro w9 hZ9 hC9) | go_step)
      refine bodyPost_ret (v := .tuple #[.agg (jobV jobZ).toArray, .bool false]) (results_blk2 (fn := Tryd.f13) (p := 4) (q := 5) (ty := 37) rfl _ z (jobV jobZ) 37 (.bool false) rfl rfl hZ9 row_job size_job) rfl ?_

      exact ⟨by rw [HN.out]; rfl, blk_below_set B7.out hC9 Z0.out⟩
    · have HN := hid hf
      obtain ⟨hil, hie⟩ := List.getElem?_eq_some_iff.1 hj
      have hlen := H7.out.ok.few.2
      obtain ⟨ao, no, co, rfl, hno, hco, hcs⟩ := H7.out.over.cs
      have c3 := H7.out.own.get 3 rfl
      have h0i : (0 : Int) ≤ (i : Int) := by omega
      have hin : (i : Int) < (no : Int) := by omega
      have hnb : (no : Int) ≤ 64 := by omega
      obtain ⟨bo, off, rfl, hcell⟩ := cs_row jobV_length hcs hil (by decide)
      have HRow := hid (show w7.rangeAt bo (off + i * 6) (jobV j) from fun x v hv => hcell x v (by rw [hie]; exact hv))
      clear hj hf hil hie hcell hcs HR hC H6
      go_upto_region 8 with fail
      repeat (first | (refine wpList_load_row6 (o := ⟨some 34, _, _, _, _, _⟩) 37 (.tmp 33) rfl rfl bo (off + i * 6) (jobV j) rfl HRow.out row_job size_job ?_) | (refine wpList_store_blk (o := ⟨none, _, 0, _, _, _⟩) 37 (.tmp 4) (.tmp 34) rfl rfl z (jobV jobZ) (jobV j) 37 rfl rfl K7.out rfl size_job (jobV_one _) ?_; intro w9 hZ9 hC9) | go_step)
      refine bodyPost_ret (v := .tuple #[.agg (jobV j).toArray, .bool true]) (results_blk2 (fn := Tryd.f13) (p := 4) (q := 5) (ty := 37) rfl _ z (jobV j) 37 (.bool true) rfl rfl hZ9 row_job size_job) rfl ?_

      exact ⟨by rw [HN.out]; rfl, blk_below_set B7.out hC9 Z0.out⟩
end Go.Proofs.YtombndhjoaaaiaaDoor
