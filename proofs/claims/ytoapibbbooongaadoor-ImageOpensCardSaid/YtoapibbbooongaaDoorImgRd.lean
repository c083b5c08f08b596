/- The document's images in a list: find, set. -/
import Derived.Test.YtoapibbbooongaaDoorImgA
import Derived.Test.YtoapibbbooongaaDoorBlkJ
namespace Go.Proofs.YtoapibbbooongaaDoor
open Go.RowKit Go.Quad _root_.Quad _root_.Quad.Slab

/-- an image of the document's, in a list -/
structure RI where
  x : Img
  ba : Option Addr
  bc : Nat
  aa : Option Addr
  ac : Nat
def riV (r : RI) : List Value := [.int .u32 (r.x.job : Int), .int .u32 (r.x.ver : Int), .int .i64 r.x.credit, .slice r.ba r.x.blobs.length r.bc, .slice r.aa r.x.at'.length r.ac]
theorem riV_length (r : RI) : (riV r).length = 5 := rfl
theorem riV_one (r : RI) : ∀ u ∈ riV r, u.oneCell' = true := by
  intro u hu
  simp only [riV, List.mem_cons, List.not_mem_nil, or_false] at hu
  rcases hu with rfl | rfl | rfl | rfl | rfl <;> rfl
def riZ : RI := ⟨imgZ, none, 0, none, 0⟩
def zri : Array Value := #[.int .u32 0, .int .u32 0, .int .i64 0, .slice none 0 0, .slice none 0 0]
theorem info_ri : (Tryd.prog.info? 53).map (fun i => (i.zero, i.size)) = some (some (.agg zri), 5) := by kernel_rfl
theorem info_ri3 : (Tryd.prog.info? 53).map (fun i => (i.zero, i.size, i.bytes)) = some (some (.agg zri), 5, 64) := by kernel_rfl
theorem under_ris : Tryd.prog.underlying 50 = some (.slice 53) := by kernel_rfl
def keyR (r : RI) : Nat := r.x.job
/-- where a job stands first -/
def FindTo (w : World) (L : List RI) (job : Nat) (e : Ending) (w' : World) : Prop :=
  Below w.heap.size w w' ∧ ((∃ i, i < L.length ∧ e = .returned (.int .i64 (i : Int)) ∧ (∃ h : i < L.length, L[i].x.job = job) ∧ ∀ j (h : j < L.length), j < i → L[j].x.job ≠ job) ∨ ((∀ r ∈ L, r.x.job ≠ job) ∧ e = .returned (.int .i64 (-1))))
set_option maxRecDepth 100000 in
set_option maxHeartbeats 4000000 in
theorem rfind_calls (w : World) (a : Option Addr) (n c : Nat) (L : List RI) (h : CS w a c 5 (L.flatMap riV)) (hn : L.length = n) (hnc : n ≤ c) (job : Nat) (hj : job < 4294967296) (_hjb : ∀ r ∈ L, r.x.job < 4294967296) :
    Calls Tryd.prog 60 #[.slice a n c, .int .u32 (job : Int)] w (FindTo w L job) := by
  have H := hid h
  have HN := hid hn
  have hm : (n : Int) ≤ 9223372036854775807 := by have := h.max; unfold maxLen at this; omega
  have hj' : ¬ (4294967296 ≤ (job : Int)) := by omega
  clear h hn hj _hjb
  go_enter Tryd.func60, Tryd.ntmps60
  go_wp2_with fail
  go_loopw [5, 6, 9] (fun _ _ kv wr => Below w.heap.size w wr ∧ ∃ k : Nat, kv = .int .i64 (k : Int) ∧ k ≤ n ∧ ∀ j (h : j < L.length), j < k → L[j].x.job ≠ job) (fun _ _ kv _ => n - (intOf kv).toNat)
  case atStart => exact ⟨Below.refl _ _, 0, rfl, Nat.zero_le _, fun _ _ h => by omega⟩
  case round =>
    obtain ⟨hb, k, rfl, hk, hno⟩ := hrel
    have HB := hid hb
    have NO := hid hno
    clear hb hno
    by_cases hlt : k < n
    · have hlt' : (k : Int) < (n : Int) := by omega
      have hkl : k < L.length := by rw [HN.out]; exact hlt
      obtain ⟨b, off, rfl, hcell⟩ := cs_row riV_length (H.out.below HB.out) hkl (by decide)
      have d0 := hcell 0 _ rfl
      have d1 := hcell 1 _ rfl
      have d2 := hcell 2 _ rfl
      have d3 := hcell 3 _ rfl
      have d4 := hcell 4 _ rfl
      obtain ⟨r, hr⟩ : ∃ r, L[k] = r := ⟨_, rfl⟩
      rw [hr] at d0 d1 d2 d3 d4
      have HR := hid hr
      rw [Nat.add_zero] at d0
      clear hcell hr
      have bn := hid (HB.out.trans ((below_alloc wr (.cells (riV r).toArray 53)).mono HB.out.size))
      by_cases hje : r.x.job = job
      · have hje' : ((r.x.job : Int) == (job : Int)) = true := by rw [hje, beq_self_eq_true]
        have HJE := hid hje
        clear hje
        go_wp2_with fail
        go_ret
        exact ⟨bn.out, .inl ⟨k, hkl, rfl, ⟨hkl, by rw [HR.out]; exact HJE.out⟩, fun j hj hjk => NO.out j hj hjk⟩⟩
      · have hje' : ((r.x.job : Int) == (job : Int)) = false := by rw [beq_eq_false_iff_ne]; omega
        have R : Below w.heap.size w (wr.alloc (.cells (riV r).toArray 53)) ∧ ∃ k' : Nat, (Value.int .i64 ((k : Int) + 1)) = .int .i64 (k' : Int) ∧ k' ≤ n ∧ ∀ j (h : j < L.length), j < k' → L[j].x.job ≠ job := ⟨bn.out, k + 1, rfl, hlt, fun j hj hjk => by
          rcases Nat.lt_or_ge j k with h | h
          · exact NO.out j hj h
          · obtain rfl : j = k := by omega
            rw [HR.out]; exact hje⟩
        have HRl := hid R
        clear R hje
        go_wp2_with fail
        refine ⟨?_, by simp only [intOf]; omega⟩
        first | exact HRl.out | ((repeat apply Exists.intro); refine ⟨HRl.out, ?_⟩; and_intros <;> rfl)
    · have hlt' : ¬ ((k : Int) < (n : Int)) := by omega
      go_wp2_with fail
      go_ret
      refine ⟨HB.out, .inr ⟨fun r hr => ?_, rfl⟩⟩
      obtain ⟨j, hj, rfl⟩ := List.getElem_of_mem hr
      exact NO.out j hj (by have := HN.out; omega)
/-- a list with a job's image -/
def SetTo (w : World) (L : List RI) (x : RI) (e : Ending) (w' : World) : Prop := ∃ bv, e = .returned bv ∧ RO riV 5 w' w.heap.size 53 bv (setK keyR x L) ∧ Below w.heap.size w w'
def SetRel (w1 : World) (_y : Nat) (L : List RI) (x : RI) (bv dv kv : Value) (wr : World) : Prop :=
  ∃ (k : Nat) (out : List RI) (d : Bool), kv = .int .i64 (k : Int) ∧ dv = .bool d ∧ k ≤ L.length ∧ (L.take k).foldl (stepK keyR x) ([], false) = (out, d) ∧ RO riV 5 wr w1.heap.size 53 bv out ∧ Below w1.heap.size w1 wr ∧ out.length ≤ 2 * k
set_option maxRecDepth 100000 in
set_option maxHeartbeats 4000000 in
theorem rset_calls (w : World) (a : Option Addr) (n c : Nat) (L : List RI) (x : RI) (h : CS w a c 5 (L.flatMap riV)) (hn : L.length = n) (_hnc : n ≤ c) (hl : n ≤ 100000) (hjb : ∀ r ∈ L, r.x.job < 4294967296) (hxj : x.x.job < 4294967296) :
    Calls Tryd.prog 61 #[.slice a n c, .agg (riV x).toArray] w (SetTo w L x) := by
  have hn6 : (n : Int) ≤ 100000 := by omega
  have b1 := below_alloc w (.cells (riV x).toArray 53)
  have k1 := blk_alloc w (riV x) 53
  obtain ⟨y, hy⟩ : ∃ y, w.heap.size = y := ⟨_, rfl⟩
  rw [hy] at k1
  have HY := hid hy
  have B1 := hid b1
  have K1 := hid k1
  have H := hid (h.below b1)
  have HN := hid hn
  have HJB := hid hjb
  have hxj' : ¬ (4294967296 ≤ (x.x.job : Int)) := by omega
  clear h hn b1 k1 hy hjb
  go_enter Tryd.func61, Tryd.ntmps61
  go_upto_region 1 with fail
  rw [HY.out]
  generalize (w.alloc (.cells (riV x).toArray 53)) = w1 at B1 K1 H ⊢
  have R0 := hid (show SetRel w1 y L x (.slice none 0 0) (.bool false) (.int .i64 0) w1 from ⟨0, [], false, rfl, rfl, Nat.zero_le _, rfl, RO.nil _ _ _ _ _, Below.refl _ _, Nat.le_refl _⟩)
  go_wp2_with fail
  go_loopw [5, 6, 8, 11] (fun bv dv _ kv wr => SetRel w1 y L x bv dv kv wr) (fun _ _ _ kv _ => n - (intOf kv).toNat)
  case atStart => exact R0.out
  case round =>
    clear R0
    obtain ⟨k, out, d, rfl, rfl, hk, hfo, hro, hbe, hlo⟩ := hrel
    have FO := hid hfo
    have RO1 := hid hro
    have BE := hid hbe
    have LO := hid hlo
    rw [HN.out] at hk
    obtain ⟨va, vn, vc, rfl, _, _, _⟩ := hro.cs
    clear hfo hro hbe hlo
    by_cases hlt : k < n
    · have hlt' : (k : Int) < (n : Int) := by omega
      have hkl : k < L.length := by rw [HN.out]; exact hlt
      obtain ⟨b, off, rfl, hcell⟩ := cs_row riV_length (H.out.below BE.out) hkl (by decide)
      have d0 := hcell 0 _ rfl
      have d1 := hcell 1 _ rfl
      have d2 := hcell 2 _ rfl
      have d3 := hcell 3 _ rfl
      have d4 := hcell 4 _ rfl
      have hrj := HJB.out L[k] (List.getElem_mem hkl)
      have hft : (L.take (k + 1)).foldl (stepK keyR x) ([], false) = stepK keyR x (out, d) L[k] := by
        rw [List.take_succ_eq_append_getElem hkl, List.foldl_append, FO.out]
        rfl
      obtain ⟨r, hr⟩ : ∃ r, L[k] = r := ⟨_, rfl⟩
      rw [hr] at d0 d1 d2 d3 d4 hrj hft
      have HFT := hid hft
      rw [Nat.add_zero] at d0
      have hrj' : ¬ (4294967296 ≤ (r.x.job : Int)) := by omega
      clear hcell hr hft
      have b5 := below_alloc wr (.cells (riV r).toArray 53)
      have k5 := blk_alloc wr (riV r) 53
      go_upto_region 6 with fail
      obtain ⟨y2, hy2⟩ : ∃ y2, wr.heap.size = y2 := ⟨_, rfl⟩
      have HY2 := hid (show y < y2 ∧ wr.heap.size = y2 from ⟨by have := K1.out.lt; have := BE.out.size; omega, hy2⟩)
      rw [hy2] at k5 ⊢
      have B5 := hid b5
      have K5 := hid k5
      clear b5 k5 hy2 d0 d1 d2 d3 d4
      change Code.wp _ _ _ _ (wr.alloc (.cells (riV r).toArray 53))
      generalize (wr.alloc (.cells (riV r).toArray 53)) = w5 at B5 K5 ⊢
      have RO5 := hid (RO1.out.chg (Chg.of_below [] B5.out) (by simp))
      have Y5 := hid ((K1.out.below BE.out).below B5.out)
      obtain ⟨tb, htb⟩ : ∃ tb, (!d && decide (x.x.job ≤ r.x.job)) = tb := ⟨_, rfl⟩
      have HTB := hid htb
      clear htb
      have r0 := K5.out.get 0 rfl
      have x0 := Y5.out.get 0 rfl
      go_cut [23] from 15 to 24 (fun v23 w' => v23 = .bool tb ∧ w5 = w')
      case first =>
        cases d with
        | true =>
          have e : tb = false := by rw [← HTB.out]; rfl
          subst e
          go_wp2_with fail
          go_meet
          exact ⟨rfl, rfl⟩
        | false =>
          by_cases hge : x.x.job ≤ r.x.job
          · have hge' : (x.x.job : Int) ≤ (r.x.job : Int) := by omega
            have e : tb = true := by rw [← HTB.out, decide_eq_true hge]; rfl
            subst e
            go_wp2_with fail
            go_meet
            exact ⟨rfl, rfl⟩
          · have hge' : ¬ ((x.x.job : Int) ≤ (r.x.job : Int)) := by omega
            have e : tb = false := by rw [← HTB.out, decide_eq_false hge]; rfl
            subst e
            go_wp2_with fail
            go_meet
            exact ⟨rfl, rfl⟩
      case rest =>
        obtain ⟨rfl, rfl⟩ := hcut
        have VN := hid (show ∀ z, (Value.slice va vn vc).ownBlock = some z → w1.heap.size ≤ z ∧ z < wr.heap.size from fun z hz => RO1.out.ownBlock z hz)
        go_upto_if 23 with fail
        go_cut [5, 6] from 24 to 28 (fun v5 v6 w' => ∃ out2, RO riV 5 w' w1.heap.size 53 v5 out2 ∧ out2 = (if tb then out ++ [x] else out) ∧ v6 = .bool (d || decide (x.x.job ≤ r.x.job)) ∧ Below w1.heap.size w5 w' ∧ Blk w' y2 (riV r) 53 ∧ Blk w' y (riV x) 53 ∧ ∀ z, v5.ownBlock = some z → z ≠ y2)
        case first =>
          cases tb with
          | false =>
            have e : (d || decide (x.x.job ≤ r.x.job)) = d := by
              have h := HTB.out
              cases d with
              | true => rfl
              | false => simpa using h
            go_wp2_with fail
            go_meet
            exact ⟨out, RO5.out, by simp, by rw [e], Below.refl _ _, K5.out, Y5.out, fun z hz => by have := (VN.out z hz).2; have := HY2.out.2; omega⟩
          | true =>
            have e : (d || decide (x.x.job ≤ r.x.job)) = true := by
              have h := HTB.out
              cases d with
              | true => rfl
              | false => simpa using h
            have x1 := Y5.out.get 1 rfl
            have x2 := Y5.out.get 2 rfl
            have x3 := Y5.out.get 3 rfl
            have x4 := Y5.out.get 4 rfl
            go_upto_region 8 with (first
              | (refine wpListQ_buildOne (o := ⟨some 26, _, _, _, _, _⟩) rfl 50 53 (.tmp 25) rfl (riV x).toArray zri 5 rfl under_ris info_ri (by decide) rfl ?_)
              | (at_builtin; go_must (refine wpList_append_ro riV_length riV_one (by decide) (.tmp 24) (.tmp 26) _ rfl rfl w1.heap.size 53 _ 64 info_ri3 rfl under_ris _ out (RO5.out.chg (Chg.of_below [] (below_alloc w5 (.cells (riV x).toArray 53))) (by simp)) rfl (l' := [x]) rfl (show CS _ _ _ _ (([x] : List RI).flatMap riV) from cs_lit w5 (riV x) 53 1 5 rfl (by decide)) (Nat.le_refl _) rfl (by have := LO.out; simp; omega) (Nat.le_trans BE.out.size (Nat.le_trans B5.out.size (below_alloc w5 _).size)) ?_; intro v6 w6 ho6 hb6 hg6 hv6; obtain ⟨a6, n6, c6, rfl, _, _, _⟩ := ho6.cs; have O6 := hid ho6; have G6 := hid hg6; have V6 := hid hv6; clear ho6 hb6 hg6 hv6)))
            have hal := below_alloc w5 (.cells (riV x).toArray 53)
            have hn2 : ∀ z, (Value.slice va vn vc).ownBlock = some z → z ≠ y2 ∧ z ≠ y := fun z hz => by
              have h1 := VN.out z hz
              have h2 := HY2.out
              have := K1.out.lt
              exact ⟨by omega, by omega⟩
            have R : ∃ out2, RO riV 5 w6 w1.heap.size 53 (.slice a6 n6 c6) out2 ∧ out2 = (if true then out ++ [x] else out) ∧ Value.bool true = .bool (d || decide (x.x.job ≤ r.x.job)) ∧ Below w1.heap.size w5 w6 ∧ Blk w6 y2 (riV r) 53 ∧ Blk w6 y (riV x) 53 ∧ ∀ z, (Value.slice a6 n6 c6).ownBlock = some z → z ≠ y2 :=
              ⟨out ++ [x], O6.out, by simp, by rw [e], (hal.mono (Nat.le_trans BE.out.size B5.out.size)).trans ((chg_grown G6.out).below (Nat.le_trans (Nat.le_trans BE.out.size B5.out.size) hal.size) fun z hz => (VN.out z (by simpa using hz)).1), (K5.out.below hal).keep (chg_grown G6.out) (fun hm => (hn2 y2 (by simpa using hm)).1 rfl), (Y5.out.below hal).keep (chg_grown G6.out) (fun hm => (hn2 y (by simpa using hm)).2 rfl), fun z hz => by
                rcases V6.out with h | h
                · exact (hn2 z (h ▸ hz)).1
                · rw [h] at hz; simp only [Option.some.injEq] at hz; have := K5.out.lt; have := hal.size; omega⟩
            have HR := hid R
            clear R hal hn2
            go_wp2_with fail
            go_meet
            exact HR.out
        case rest =>
          obtain ⟨out2, hro2, hou2, rfl, hb2, hk2, hyy, hzz⟩ := hcut
          obtain ⟨a7, n7, c7, rfl, _, _, _⟩ := hro2.cs
          have RO7 := hid hro2
          have B7 := hid ((BE.out.trans (B5.out.mono BE.out.size)).trans hb2)
          have K7 := hid hk2
          have ZZ := hid hzz
          have LO7 := hid (show out2.length ≤ 2 * k + 1 from by rw [hou2]; have := LO.out; split <;> simp <;> omega)
          have HDD := hid (show stepK keyR x (out, d) r = (out2 ++ (if r.x.job = x.x.job then [] else [r]), d || decide (x.x.job ≤ r.x.job)) from by
            unfold stepK keyR
            rw [hou2, ← HTB.out]
            by_cases hge : x.x.job ≤ r.x.job
            · cases d <;> simp [hge]
            · cases d <;> simp [hge])
          have r0 := hk2.get 0 rfl
          have x0 := hyy.get 0 rfl
          clear hro2 hou2 hb2 hyy hzz
          obtain ⟨d', hd'⟩ : ∃ d', (d || decide (x.x.job ≤ r.x.job)) = d' := ⟨_, rfl⟩
          rw [hd'] at HDD ⊢
          clear hd'
          by_cases hje : r.x.job = x.x.job
          · have hje' : ((r.x.job : Int) != (x.x.job : Int)) = false := by rw [hje]; simp
            have R : SetRel w1 y L x (.slice a7 n7 c7) (.bool d') (.int .i64 ((k : Int) + 1)) wc := ⟨k + 1, out2, d', rfl, rfl, hkl, by rw [HFT.out, HDD.out, if_pos hje, List.append_nil], RO7.out, B7.out, by have := LO7.out; omega⟩
            have HR := hid R
            clear R hje hk2
            go_wp2_with fail
            refine ⟨?_, by simp only [intOf]; omega⟩
            first | exact HR.out | ((repeat apply Exists.intro); refine ⟨HR.out, ?_⟩; and_intros <;> rfl)
          · have hje' : ((r.x.job : Int) != (x.x.job : Int)) = true := by rw [bne_iff_ne]; omega
            have r1 := hk2.get 1 rfl
            have r2 := hk2.get 2 rfl
            have r3 := hk2.get 3 rfl
            have r4 := hk2.get 4 rfl
            have HJ := hid hje
            clear hje hk2
            go_upto_region 10 with fail
            go_wp2_with (first
              | (refine wpListQ_buildOne (o := ⟨some 35, _, _, _, _, _⟩) rfl 50 53 (.tmp 34) rfl (riV r).toArray zri 5 rfl under_ris info_ri (by decide) rfl ?_)
              | (at_builtin; go_must (refine wpList_append_ro riV_length riV_one (by decide) (.tmp 33) (.tmp 35) _ rfl rfl w1.heap.size 53 _ 64 info_ri3 rfl under_ris _ out2 (RO7.out.chg (Chg.of_below [] (below_alloc wc (.cells (riV r).toArray 53))) (by simp)) rfl (l' := [r]) rfl (show CS _ _ _ _ (([r] : List RI).flatMap riV) from cs_lit wc (riV r) 53 1 5 rfl (by decide)) (Nat.le_refl _) rfl (by have := LO7.out; simp; omega) (Nat.le_trans B7.out.size (below_alloc wc _).size) ?_; intro v8 w8 ho8 hb8 hg8 hv8; obtain ⟨a8, n8, c8, rfl, _, _, _⟩ := ho8.cs; have O8 := hid ho8; have G8 := hid hg8; clear ho8 hb8 hg8 hv8)))
            have hal := below_alloc wc (.cells (riV r).toArray 53)
            have R : SetRel w1 y L x (.slice a8 n8 c8) (.bool d') (.int .i64 ((k : Int) + 1)) w8 := ⟨k + 1, out2 ++ [r], d', rfl, rfl, hkl, by rw [HFT.out, HDD.out, if_neg HJ.out], O8.out, (B7.out.trans (hal.mono B7.out.size)).trans ((chg_grown G8.out).below (Nat.le_trans B7.out.size hal.size) fun z hz => (RO7.out.ownBlock z (by simpa using hz)).1), by rw [List.length_append, List.length_singleton]; have := LO7.out; omega⟩
            have HR := hid R
            clear R hal
            refine ⟨?_, by simp only [intOf]; omega⟩
            first | exact HR.out | ((repeat apply Exists.intro); refine ⟨HR.out, ?_⟩; and_intros <;> rfl)
    · have hlt' : ¬ ((k : Int) < (n : Int)) := by omega
      have hfin : L.foldl (stepK keyR x) ([], false) = (out, d) := by
        have h := FO.out
        rwa [List.take_of_length_le (by rw [HN.out]; omega)] at h
      have HF := hid hfin
      clear hfin
      cases d with
      | true =>
        have hs : setK keyR x L = out := by unfold setK goK; rw [HF.out]; rfl
        have HS := hid hs
        clear hs
        go_wp2_with fail
        go_ret
        refine ⟨_, rfl, ?_, B1.out.trans (BE.out.mono B1.out.size)⟩
        rw [HS.out]
        exact RO1.out.base' B1.out.size
      | false =>
        have hs : setK keyR x L = out ++ [x] := by unfold setK goK; rw [HF.out]; rfl
        have HS := hid hs
        have Y1 := K1.out.below BE.out
        have x0 := Y1.get 0 rfl
        have x1 := Y1.get 1 rfl
        have x2 := Y1.get 2 rfl
        have x3 := Y1.get 3 rfl
        have x4 := Y1.get 4 rfl
        clear hs Y1
        go_upto_region 13 with fail
        go_wp2_with (first
          | (refine wpListQ_buildOne (o := ⟨some 42, _, _, _, _, _⟩) rfl 50 53 (.tmp 41) rfl (riV x).toArray zri 5 rfl under_ris info_ri (by decide) rfl ?_)
          | (at_builtin; go_must (refine wpList_append_ro riV_length riV_one (by decide) (.tmp 40) (.tmp 42) _ rfl rfl w1.heap.size 53 _ 64 info_ri3 rfl under_ris _ out (RO1.out.chg (Chg.of_below [] (below_alloc wr (.cells (riV x).toArray 53))) (by simp)) rfl (l' := [x]) rfl (show CS _ _ _ _ (([x] : List RI).flatMap riV) from cs_lit wr (riV x) 53 1 5 rfl (by decide)) (Nat.le_refl _) rfl (by have := LO.out; simp; omega) (Nat.le_trans BE.out.size (below_alloc wr _).size) ?_; intro v8 w8 ho8 hb8 hg8 hv8; obtain ⟨a8, n8, c8, rfl, _, _, _⟩ := ho8.cs; have O8 := hid ho8; have G8 := hid hg8; clear ho8 hb8 hg8 hv8)))
        go_ret
        have hal := below_alloc wr (.cells (riV x).toArray 53)
        have hbb := (BE.out.trans (hal.mono BE.out.size)).trans ((chg_grown G8.out).below (Nat.le_trans BE.out.size hal.size) fun z hz => (RO1.out.ownBlock z (by simpa using hz)).1)
        refine ⟨_, rfl, ?_, B1.out.trans (hbb.mono B1.out.size)⟩
        rw [HS.out]
        exact O8.out.base' B1.out.size
end Go.Proofs.YtoapibbbooongaaDoor
