/- JobsPlays: every script of requests, right ones, wrong ones, told again, out of order, and of what becomes of jobs has the document's answers. -/
import Derived.Test.YtombndhjoaaaiaaDoorJobCmp
import Derived.Deep.CutRange
import Derived.Deep.CutBlock
import Derived.Deep.DeepMust
import Derived.Deep.RegionHeldLaw
namespace Go.Proofs.YtombndhjoaaaiaaDoor
open Go.RowKit Go.Quad _root_.Quad _root_.Quad.Ink

theorem ndo_fit {nl : Bool} {t : TbD} (hf : nl = false → Fit t ∧ t.Ok) (q : ReqD) (hq : q.Ok) : nl = false → Fit (ndo nl t q).1 ∧ (ndo nl t q).1.Ok := by
  intro h; obtain ⟨h1, h2⟩ := hf h; subst h; exact ⟨h1.does h2 q, doT_ok h2 q hq⟩
theorem nfin_fit {nl : Bool} {t : TbD} (hf : nl = false → Fit t ∧ t.Ok) (id : Nat) : nl = false → Fit (nfin nl t id).1 ∧ (nfin nl t id).1.Ok := by
  intro h; obtain ⟨h1, h2⟩ := hf h; subst h; exact ⟨h1.finish h2 id, finishT_ok h2 id⟩
theorem ncre_fit {nl : Bool} {t : TbD} (hf : nl = false → Fit t ∧ t.Ok) (id : Nat) (n : Int) : nl = false → Fit (ncre nl t id n).1 ∧ (ncre nl t id n).1.Ok := by
  intro h; obtain ⟨h1, h2⟩ := hf h; subst h; exact ⟨h1.credit h2 id n, creditT_ok h2 id n⟩
theorem nsta_fit {nl : Bool} {t : TbD} (hf : nl = false → Fit t ∧ t.Ok) (id s : Nat) : nl = false → Fit (nsta nl t id s).1 ∧ (nsta nl t id s).1.Ok := by
  intro h; obtain ⟨h1, h2⟩ := hf h; subst h; exact ⟨h1.state h2 id s, stateT_ok h2 id s⟩
theorem act_nodes (t : TbD) (q : ReqD) : (actT t q).1.nodes = t.nodes := by
  unfold actT
  split
  · unfold cancelT; split <;> rfl
  · unfold submitT
    split
    · rfl
    · split
      · rfl
      · split <;> rfl
theorem ndo_nodes (nl : Bool) (t : TbD) (q : ReqD) : (ndo nl t q).1.nodes = t.nodes := by
  unfold ndo
  split
  · rfl
  · unfold doT
    split
    · rfl
    · split
      · rfl
      · split
        · rfl
        · split
          · rfl
          · split
            · exact act_nodes t q
            · exact act_nodes t q
theorem nfin_nodes (nl : Bool) (t : TbD) (id : Nat) : (nfin nl t id).1.nodes = t.nodes := by
  unfold nfin
  split
  · rfl
  · unfold finishT; split <;> rfl
theorem ncre_nodes (nl : Bool) (t : TbD) (id : Nat) (n : Int) : (ncre nl t id n).1.nodes = t.nodes := by
  unfold ncre
  split
  · rfl
  · unfold creditT
    split
    · rfl
    · split
      · rfl
      · split <;> rfl
theorem nsta_nodes (nl : Bool) (t : TbD) (id s : Nat) : (nsta nl t id s).1.nodes = t.nodes := by
  unfold nsta
  split
  · rfl
  · unfold stateT
    split
    · rfl
    · split <;> rfl
/-- what a table of the script is always -/
structure Inv (nl : Bool) (n : Int) (t : TbD) : Prop where
  fit : nl = false → Fit t ∧ t.Ok
  nodes : nl = false → t.nodes = n
def PlRel (w0 : World) (nl : Bool) (n : Int) (len : Nat) (v5 v7 iv : Value) (W : World) : Prop :=
  ∃ (k : Nat) (t : TbD) (p5 p7 : Value), p5 = v5 ∧ p7 = v7 ∧ iv = .int .i64 (k : Int) ∧ k ≤ len ∧ k ≤ 100 ∧ Inv nl n t ∧ Pair nl w0 p5 p7 t t [] W
/-- behind what is done of an operation; q: where it lies -/
def PlMid (w0 : World) (nl : Bool) (n : Int) (q : Nat) (o : JopD) (v5 v7 v11 : Value) (W : World) : Prop :=
  v11 = .bool true ∧ ∃ (t : TbD) (p5 p7 : Value), p5 = v5 ∧ p7 = v7 ∧ Inv nl n t ∧ Pair nl w0 p5 p7 t t [q] W ∧ Blk W q (jopV o) 48
theorem jnew_any (w W : World) (n : Int) (hn : -9223372036854775808 ≤ n ∧ n ≤ 9223372036854775807) (nl : Bool) (hnl : nl = !decide (1 ≤ n ∧ n ≤ 16)) (hw : w.heap.size ≤ W.heap.size) :
    Calls Tryd.prog 10 #[.int .i64 n] W fun e W' => ∃ p S, e = .returned (.tuple #[p, .int .i64 (if nl then 1 else 0)]) ∧ CT nl w p (newT n) S W' ∧ Below W.heap.size W W' ∧ ∀ k ∈ S, W.heap.size ≤ k := by
  refine (jnew_calls W n hn).mono ?_
  intro e W' h
  unfold NewTo at h
  by_cases hc : 1 ≤ n ∧ n ≤ 16
  · rw [if_pos hc] at h
    obtain ⟨T, b, rfl, h1, h2⟩ := h
    subst hnl
    simp only [hc, and_self, decide_true, Bool.not_true]
    exact ⟨_, _, rfl, ⟨T, b, _, rfl, h1.base hw, rfl⟩, h2, fun k hk => (h1.lt k hk).1⟩
  · rw [if_neg hc] at h
    obtain ⟨rfl, rfl⟩ := h
    subst hnl
    rw [decide_eq_false hc]
    exact ⟨_, [], rfl, ⟨rfl, rfl⟩, Below.refl _ _, by simp⟩
theorem rnew_any (w W : World) (n : Int) (hn : -9223372036854775808 ≤ n ∧ n ≤ 9223372036854775807) (nl : Bool) (hnl : nl = !decide (1 ≤ n ∧ n ≤ 16)) (hw : w.heap.size ≤ W.heap.size) :
    Calls Tryd.prog 23 #[.int .i64 n] W fun e W' => ∃ p S, e = .returned (.tuple #[p, .int .i64 (if nl then 1 else 0)]) ∧ DT nl w p (newT n) S W' ∧ Below W.heap.size W W' ∧ ∀ k ∈ S, W.heap.size ≤ k := by
  refine (rnew_calls W n hn).mono ?_
  intro e W' h
  unfold RNewTo at h
  by_cases hc : 1 ≤ n ∧ n ≤ 16
  · rw [if_pos hc] at h
    obtain ⟨X, rfl, h1, h2⟩ := h
    subst hnl
    simp only [hc, and_self, decide_true, Bool.not_true]
    exact ⟨_, _, rfl, ⟨X, _, _, rfl, h1.base hw, rfl⟩, h2, fun k hk => (h1.lt k hk).1⟩
  · rw [if_neg hc] at h
    obtain ⟨rfl, rfl⟩ := h
    subst hnl
    rw [decide_eq_false hc]
    exact ⟨_, [], rfl, ⟨rfl, rfl⟩, Below.refl _ _, by simp⟩

set_option maxRecDepth 100000 in
set_option maxHeartbeats 20000000 in
theorem jobsPlays_walk (n : Int) (v1 : Value) (w : World) (hn : (Lit.int .i64 n).wf = true) (h1 : RV Tryd.prog w 46 v1) (hq : Laid w) :
    Calls Tryd.prog 8 #[.int .i64 n, v1] w fun e w' => e = .returned (.bool true) ∧ Below w.heap.size w w' := by
  obtain ⟨a0, cap0, l0, rfl, hok0, hcs0, hlc0⟩ := jops_open h1
  have m0 : (l0.length : Int) ≤ 9223372036854775807 := by have := hcs0.max; unfold maxLen at this; omega
  have Hok := hid hok0
  have Hcs := hid hcs0
  have HQ := hid hq
  have HN := hid (bounds_i64 hn)
  have hA := hid (jawake_calls w hq)
  obtain ⟨nl, hnl⟩ : ∃ nl : Bool, nl = !decide (1 ≤ n ∧ n ≤ 16) := ⟨_, rfl⟩
  have HNL := hid hnl
  obtain ⟨er, her⟩ : ∃ er : Int, (if nl then 1 else 0) = er := ⟨_, rfl⟩
  have HER := hid her
  clear hq h1 hok0 hcs0 hlc0 hn hnl her
  go_enter Tryd.func8, Tryd.ntmps8
  go_upto_region 3 with (go_at_call 9; go_loud (refine hA.out.mono ?_; rintro e w1 ⟨rfl, hb⟩; have B1 := hid hb; have hJ := hid (HER.out ▸ jnew_any w w1 n HN.out nl HNL.out hb.size); clear hb))
  go_upto_region 4 with (go_at_call 10; go_loud (refine hJ.out.mono ?_; rintro e w2 ⟨p1, S1, rfl, hc, hb, hs⟩; have C2 := hid hc; have B2 := hid (B1.out.trans (hb.mono B1.out.size)); have hR := hid (HER.out ▸ rnew_any w w2 n HN.out nl HNL.out B2.out.size); clear hc hb hs))
  go_upto_region 5 with (go_at_call 23; go_loud (refine hR.out.mono ?_; rintro e w3 ⟨p2, S2, rfl, hc, hb, hs⟩; have P3 := hid (show Pair nl w p1 p2 (newT n) (newT n) [] w3 from ⟨B2.out.trans (hb.mono B2.out.size), S1, S2, C2.out.chg (Chg.of_below [] hb) (by simp), hc, fun k h1 h2 => by have := (C2.out.lt k h1).2; have := hs k h2; omega, by simp⟩); clear hc hb hs))
  clear hA hJ hR C2 B2 B1
  have I3 := hid (show Inv nl n (newT n) from ⟨fun h => ⟨Fit.new n, newT_ok (by have h2 := HNL.out; rw [h] at h2; simpa using h2)⟩, fun _ => rfl⟩)
  go_cut [41] from 32 to 42 (fun v w' => v = .bool false ∧ w' = w3)
  case first =>
    obtain ⟨_, T1, T2, hc, hd, _⟩ := P3.out
    have P4 := hid P3.out
    cases nl
    · obtain ⟨T, b, ov, rfl, _, _⟩ := hc
      obtain ⟨X, av, ov2, rfl, _, _⟩ := hd
      go_wp2_with fail
      go_meet
      first | exact ⟨rfl, rfl⟩ | ((repeat apply Exists.intro); refine ⟨⟨rfl, rfl⟩, ?_⟩; and_intros <;> rfl)
    · obtain ⟨rfl, _⟩ := hc
      obtain ⟨rfl, _⟩ := hd
      go_wp2_with fail
      go_meet
      first | exact ⟨rfl, rfl⟩ | ((repeat apply Exists.intro); refine ⟨⟨rfl, rfl⟩, ?_⟩; and_intros <;> rfl)
  case rest =>
    obtain ⟨rfl, hwc⟩ := hcut
    subst hwc
    go_wp2_with fail
    go_loopw [5, 7, 44] (fun v5 v7 iv wr => PlRel w nl n l0.length v5 v7 iv wr) (fun _ _ iv _ => l0.length - (intOf iv).toNat)
    case atStart => exact ⟨0, newT n, _, _, rfl, rfl, rfl, Nat.zero_le _, by omega, I3.out, P3.out⟩
    case round =>
      clear P3 I3
      obtain ⟨k, t, p5, p7, rfl, rfl, rfl, hk, hk100, hinv, hP⟩ := hrel
      have P := hid hP
      have I := hid hinv
      clear hP hinv
      by_cases hkl : k < l0.length
      · have hkl' : (k : Int) < (l0.length : Int) := by omega
        have Ho := hid (Hok.out _ (List.getElem_mem hkl))
        obtain ⟨bo, off, rfl, hc⟩ := cs_row jopV_length Hcs.out hkl (by decide)
        have HR := hid (show wr.rangeAt bo (off + k * 9) (jopV l0[k]) from fun j v hv => cell_later P.out.bel (hc j v hv))
        clear hc
        generalize l0[k] = o at Ho HR
        have HKL := hid hkl
        clear hkl
        go_upto_region 10 with (first | (refine wpList_load_row6 (o := ⟨some 48, _, _, _, _, _⟩) 48 (.tmp 47) rfl rfl bo (off + k * 9) (jopV o) rfl HR.out row_jop size_jop ?_) | (refine wpListQ_alloc (o := ⟨some 10, _, _, _, _, _⟩) 48 rfl rfl zjop 9 info_jop ?_) | (refine wpListQ_store_new (o := ⟨none, _, 0, _, _, _⟩) rfl 48 (.tmp 10) (.tmp 48) rfl zjop (jopV o).toArray rfl rfl size_jop rfl (all_oneCell_toArray (jopV_one _)) ?_))
        obtain ⟨q, hq⟩ : ∃ z, wr.heap.size = z := ⟨_, rfl⟩
        have bq := below_alloc wr (.cells (jopV o).toArray 48)
        have PQ := hid (show Pair nl w p5 p7 t t [q] (wr.alloc (.cells (jopV o).toArray 48)) from P.out.add bq (L := [q]) (by simp [hq]))
        have KQ := hid (show Blk (wr.alloc (.cells (jopV o).toArray 48)) q (jopV o) 48 from by rw [← hq]; exact blk_alloc wr (jopV o) 48)
        rw [hq]
        generalize (wr.alloc (.cells (jopV o).toArray 48)) = wq at PQ KQ ⊢
        clear hq bq HR P
        by_cases h100 : k < 100
        · have h100' : ¬ ((100 : Int) ≤ (k : Int)) := by omega
          have c0 := KQ.out.get 0 rfl
          have hdd : (o.dd : Int) ≤ 255 := by have := Ho.out.dd; omega
          go_upto_block 2 with fail
          go_cut [5, 7, 11, 12, 13, 14, 15, 16, 17] from 51 to 145 (fun v5 v7 v11 _ _ _ _ _ _ w' => PlMid w nl n q o v5 v7 v11 w')
          case first =>
            rcases (by omega : o.dd = 0 ∨ o.dd = 1 ∨ o.dd = 2 ∨ o.dd = 3 ∨ o.dd = 4 ∨ o.dd = 5 ∨ o.dd = 6 ∨ o.dd = 7 ∨ 8 ≤ o.dd) with h0 | h0 | h0 | h0 | h0 | h0 | h0 | h0 | h0
            · have e0 : ((o.dd : Int) == 0) = true := by rw [beq_iff_eq]; omega
              have e1 : ((o.dd : Int) == 1) = false := by rw [beq_eq_false_iff_ne]; omega
              have e2 : ((o.dd : Int) == 2) = false := by rw [beq_eq_false_iff_ne]; omega
              have e3 : ((o.dd : Int) == 3) = false := by rw [beq_eq_false_iff_ne]; omega
              have e4 : ((o.dd : Int) == 4) = false := by rw [beq_eq_false_iff_ne]; omega
              have e5 : ((o.dd : Int) == 5) = false := by rw [beq_eq_false_iff_ne]; omega
              have e6 : ((o.dd : Int) == 6) = false := by rw [beq_eq_false_iff_ne]; omega
              have e7 : ((o.dd : Int) == 7) = false := by rw [beq_eq_false_iff_ne]; omega
              clear h0
              obtain ⟨⟨t', r, d⟩, hdo⟩ : ∃ x, ndo nl t o.q = x := ⟨_, rfl⟩
              have HI' := hid (show Inv nl n t' from ⟨by have := ndo_fit I.out.fit o.q Ho.out.q; rw [hdo] at this; exact this, fun h => by have := ndo_nodes nl t o.q; rw [hdo] at this; exact this.trans (I.out.nodes h)⟩)
              have d1 := PQ.out.step1 fun S hS => cdo hS o.q Ho.out.q (HQ.out.below PQ.out.bel HQ.out.1)
              rw [hdo] at d1
              have D1 := hid d1
              have RQ := hid (show wq.rangeAt q 1 (reqV o.q) from blk_part KQ.out 1 7)
              clear d1
              go_upto_region 18 with (first | (refine wpList_load_row6 (o := ⟨some 61, _, _, _, _, _⟩) 34 (.tmp 60) rfl rfl q 1 (reqV o.q) rfl RQ.out row_req size_req ?_) | (go_at_call 11; go_loud (refine D1.out.mono ?_; rintro e y1 ⟨rfl, hp, S, hc, hs⟩; have P1 := hid hp; have K1 := hid (KQ.out.keep hc (fun m => hs q m (by simp))); clear hp hc hs; simp only [doRes])) | (refine wpListQ_alloc (o := ⟨some 12, _, _, _, _, _⟩) 30 rfl rfl zrep 6 info_rep ?_) | (refine wpListQ_store_new (o := ⟨none, _, 0, _, _, _⟩) rfl 30 (.tmp 12) (.tmp 63) rfl zrep (repV r).toArray rfl rfl size_rep rfl (all_oneCell_toArray (repV_one _)) ?_))
              obtain ⟨z1, hz1⟩ : ∃ z, y1.heap.size = z := ⟨_, rfl⟩
              have b2 := below_alloc y1 (.cells (repV r).toArray 30)
              have P2 := hid (show Pair nl w p5 p7 t' t [z1, q] (y1.alloc (.cells (repV r).toArray 30)) from P1.out.add b2 (L := [z1]) (by simp [hz1]))
              have K2 := hid (K1.out.below b2)
              have Z2 := hid (show Blk (y1.alloc (.cells (repV r).toArray 30)) z1 (repV r) 30 from by rw [← hz1]; exact blk_alloc y1 (repV r) 30)
              rw [hz1]
              clear b2 hz1 P1 K1 RQ D1
              generalize (y1.alloc (.cells (repV r).toArray 30)) = y2 at P2 K2 Z2 ⊢
              have d2 := P2.out.step2 fun S hS => ddo hS o.q Ho.out.q
              rw [hdo] at d2
              have D2 := hid d2
              have RQ := hid (show y2.rangeAt q 1 (reqV o.q) from blk_part K2.out 1 7)
              clear d2 hdo
              go_upto_region 19 with (first | (refine wpList_load_row6 (o := ⟨some 68, _, _, _, _, _⟩) 34 (.tmp 67) rfl rfl q 1 (reqV o.q) rfl RQ.out row_req size_req ?_) | (go_at_call 24; go_loud (refine D2.out.mono ?_; rintro e y3 ⟨rfl, hp, S, hc, hs⟩; have P3 := hid hp; have K3 := hid (K2.out.keep hc (fun m => hs q m (by simp))); have Z3 := hid (Z2.out.keep hc (fun m => hs z1 m (by simp))); clear hp hc hs; simp only [doRes])) | (refine wpListQ_alloc (o := ⟨some 14, _, _, _, _, _⟩) 30 rfl rfl zrep 6 info_rep ?_) | (refine wpListQ_store_new (o := ⟨none, _, 0, _, _, _⟩) rfl 30 (.tmp 14) (.tmp 70) rfl zrep (repV r).toArray rfl rfl size_rep rfl (all_oneCell_toArray (repV_one _)) ?_))
              obtain ⟨z3, hz3⟩ : ∃ z, y3.heap.size = z := ⟨_, rfl⟩
              have b4 := below_alloc y3 (.cells (repV r).toArray 30)
              have P4 := hid (P3.out.below b4)
              have K4 := hid (K3.out.below b4)
              have Z4 := hid (Z3.out.below b4)
              have Y4 := hid (show Blk (y3.alloc (.cells (repV r).toArray 30)) z3 (repV r) 30 from by rw [← hz3]; exact blk_alloc y3 (repV r) 30)
              rw [hz3]
              clear b4 hz3 P3 K3 Z3 RQ D2 P2 K2 Z2
              generalize (y3.alloc (.cells (repV r).toArray 30)) = y4 at P4 K4 Z4 Y4 ⊢
              have g0 := Z4.out.get 0 rfl
              have h0 := Y4.out.get 0 rfl
              have g1 := Z4.out.get 1 rfl
              have h1 := Y4.out.get 1 rfl
              have g2 := Z4.out.get 2 rfl
              have h2 := Y4.out.get 2 rfl
              have g3 := Z4.out.get 3 rfl
              have h3 := Y4.out.get 3 rfl
              have g4 := Z4.out.get 4 rfl
              have h4 := Y4.out.get 4 rfl
              have g5 := Z4.out.get 5 rfl
              have h5 := Y4.out.get 5 rfl
              go_wp2_with fail
              go_meet
              have R9 : PlMid w nl n q o p5 p7 (.bool true) y4 := ⟨rfl, t', p5, p7, rfl, rfl, HI'.out, P4.out.mono (by simp), K4.out⟩
              first | exact R9 | ((repeat apply Exists.intro); refine ⟨R9, ?_⟩; and_intros <;> rfl)
            · have e0 : ((o.dd : Int) == 0) = false := by rw [beq_eq_false_iff_ne]; omega
              have e1 : ((o.dd : Int) == 1) = true := by rw [beq_iff_eq]; omega
              have e2 : ((o.dd : Int) == 2) = false := by rw [beq_eq_false_iff_ne]; omega
              have e3 : ((o.dd : Int) == 3) = false := by rw [beq_eq_false_iff_ne]; omega
              have e4 : ((o.dd : Int) == 4) = false := by rw [beq_eq_false_iff_ne]; omega
              have e5 : ((o.dd : Int) == 5) = false := by rw [beq_eq_false_iff_ne]; omega
              have e6 : ((o.dd : Int) == 6) = false := by rw [beq_eq_false_iff_ne]; omega
              have e7 : ((o.dd : Int) == 7) = false := by rw [beq_eq_false_iff_ne]; omega
              clear h0
              obtain ⟨⟨t', r, d⟩, hdo⟩ : ∃ x, ndo nl t o.q = x := ⟨_, rfl⟩
              have HI' := hid (show Inv nl n t' from ⟨by have := ndo_fit I.out.fit o.q Ho.out.q; rw [hdo] at this; exact this, fun h => by have := ndo_nodes nl t o.q; rw [hdo] at this; exact this.trans (I.out.nodes h)⟩)
              have d1 := PQ.out.step1 fun S hS => cdo hS o.q Ho.out.q (HQ.out.below PQ.out.bel HQ.out.1)
              rw [hdo] at d1
              have D1 := hid d1
              have RQ := hid (show wq.rangeAt q 1 (reqV o.q) from blk_part KQ.out 1 7)
              clear d1
              go_upto_region 18 with (first | (refine wpList_load_row6 (o := ⟨some 61, _, _, _, _, _⟩) 34 (.tmp 60) rfl rfl q 1 (reqV o.q) rfl RQ.out row_req size_req ?_) | (go_at_call 11; go_loud (refine D1.out.mono ?_; rintro e y1 ⟨rfl, hp, S, hc, hs⟩; have P1 := hid hp; have K1 := hid (KQ.out.keep hc (fun m => hs q m (by simp))); clear hp hc hs; simp only [doRes])) | (refine wpListQ_alloc (o := ⟨some 12, _, _, _, _, _⟩) 30 rfl rfl zrep 6 info_rep ?_) | (refine wpListQ_store_new (o := ⟨none, _, 0, _, _, _⟩) rfl 30 (.tmp 12) (.tmp 63) rfl zrep (repV r).toArray rfl rfl size_rep rfl (all_oneCell_toArray (repV_one _)) ?_))
              obtain ⟨z1, hz1⟩ : ∃ z, y1.heap.size = z := ⟨_, rfl⟩
              have b2 := below_alloc y1 (.cells (repV r).toArray 30)
              have P2 := hid (show Pair nl w p5 p7 t' t [z1, q] (y1.alloc (.cells (repV r).toArray 30)) from P1.out.add b2 (L := [z1]) (by simp [hz1]))
              have K2 := hid (K1.out.below b2)
              have Z2 := hid (show Blk (y1.alloc (.cells (repV r).toArray 30)) z1 (repV r) 30 from by rw [← hz1]; exact blk_alloc y1 (repV r) 30)
              rw [hz1]
              clear b2 hz1 P1 K1 RQ D1
              generalize (y1.alloc (.cells (repV r).toArray 30)) = y2 at P2 K2 Z2 ⊢
              have d2 := P2.out.step2 fun S hS => ddo hS o.q Ho.out.q
              rw [hdo] at d2
              have D2 := hid d2
              have RQ := hid (show y2.rangeAt q 1 (reqV o.q) from blk_part K2.out 1 7)
              clear d2 hdo
              go_upto_region 19 with (first | (refine wpList_load_row6 (o := ⟨some 68, _, _, _, _, _⟩) 34 (.tmp 67) rfl rfl q 1 (reqV o.q) rfl RQ.out row_req size_req ?_) | (go_at_call 24; go_loud (refine D2.out.mono ?_; rintro e y3 ⟨rfl, hp, S, hc, hs⟩; have P3 := hid hp; have K3 := hid (K2.out.keep hc (fun m => hs q m (by simp))); have Z3 := hid (Z2.out.keep hc (fun m => hs z1 m (by simp))); clear hp hc hs; simp only [doRes])) | (refine wpListQ_alloc (o := ⟨some 14, _, _, _, _, _⟩) 30 rfl rfl zrep 6 info_rep ?_) | (refine wpListQ_store_new (o := ⟨none, _, 0, _, _, _⟩) rfl 30 (.tmp 14) (.tmp 70) rfl zrep (repV r).toArray rfl rfl size_rep rfl (all_oneCell_toArray (repV_one _)) ?_))
              obtain ⟨z3, hz3⟩ : ∃ z, y3.heap.size = z := ⟨_, rfl⟩
              have b4 := below_alloc y3 (.cells (repV r).toArray 30)
              have P4 := hid (P3.out.below b4)
              have K4 := hid (K3.out.below b4)
              have Z4 := hid (Z3.out.below b4)
              have Y4 := hid (show Blk (y3.alloc (.cells (repV r).toArray 30)) z3 (repV r) 30 from by rw [← hz3]; exact blk_alloc y3 (repV r) 30)
              rw [hz3]
              clear b4 hz3 P3 K3 Z3 RQ D2 P2 K2 Z2
              generalize (y3.alloc (.cells (repV r).toArray 30)) = y4 at P4 K4 Z4 Y4 ⊢
              have g0 := Z4.out.get 0 rfl
              have h0 := Y4.out.get 0 rfl
              have g1 := Z4.out.get 1 rfl
              have h1 := Y4.out.get 1 rfl
              have g2 := Z4.out.get 2 rfl
              have h2 := Y4.out.get 2 rfl
              have g3 := Z4.out.get 3 rfl
              have h3 := Y4.out.get 3 rfl
              have g4 := Z4.out.get 4 rfl
              have h4 := Y4.out.get 4 rfl
              have g5 := Z4.out.get 5 rfl
              have h5 := Y4.out.get 5 rfl
              go_wp2_with fail
              go_meet
              have R9 : PlMid w nl n q o p5 p7 (.bool true) y4 := ⟨rfl, t', p5, p7, rfl, rfl, HI'.out, P4.out.mono (by simp), K4.out⟩
              first | exact R9 | ((repeat apply Exists.intro); refine ⟨R9, ?_⟩; and_intros <;> rfl)
            · have e0 : ((o.dd : Int) == 0) = false := by rw [beq_eq_false_iff_ne]; omega
              have e1 : ((o.dd : Int) == 1) = false := by rw [beq_eq_false_iff_ne]; omega
              have e2 : ((o.dd : Int) == 2) = true := by rw [beq_iff_eq]; omega
              have e3 : ((o.dd : Int) == 3) = false := by rw [beq_eq_false_iff_ne]; omega
              have e4 : ((o.dd : Int) == 4) = false := by rw [beq_eq_false_iff_ne]; omega
              have e5 : ((o.dd : Int) == 5) = false := by rw [beq_eq_false_iff_ne]; omega
              have e6 : ((o.dd : Int) == 6) = false := by rw [beq_eq_false_iff_ne]; omega
              have e7 : ((o.dd : Int) == 7) = false := by rw [beq_eq_false_iff_ne]; omega
              clear h0
              obtain ⟨⟨t', r, d⟩, hdo⟩ : ∃ x, ndo nl t o.q = x := ⟨_, rfl⟩
              have HI' := hid (show Inv nl n t' from ⟨by have := ndo_fit I.out.fit o.q Ho.out.q; rw [hdo] at this; exact this, fun h => by have := ndo_nodes nl t o.q; rw [hdo] at this; exact this.trans (I.out.nodes h)⟩)
              have d1 := PQ.out.step1 fun S hS => cdo hS o.q Ho.out.q (HQ.out.below PQ.out.bel HQ.out.1)
              rw [hdo] at d1
              have D1 := hid d1
              have RQ := hid (show wq.rangeAt q 1 (reqV o.q) from blk_part KQ.out 1 7)
              clear d1
              go_upto_region 18 with (first | (refine wpList_load_row6 (o := ⟨some 61, _, _, _, _, _⟩) 34 (.tmp 60) rfl rfl q 1 (reqV o.q) rfl RQ.out row_req size_req ?_) | (go_at_call 11; go_loud (refine D1.out.mono ?_; rintro e y1 ⟨rfl, hp, S, hc, hs⟩; have P1 := hid hp; have K1 := hid (KQ.out.keep hc (fun m => hs q m (by simp))); clear hp hc hs; simp only [doRes])) | (refine wpListQ_alloc (o := ⟨some 12, _, _, _, _, _⟩) 30 rfl rfl zrep 6 info_rep ?_) | (refine wpListQ_store_new (o := ⟨none, _, 0, _, _, _⟩) rfl 30 (.tmp 12) (.tmp 63) rfl zrep (repV r).toArray rfl rfl size_rep rfl (all_oneCell_toArray (repV_one _)) ?_))
              obtain ⟨z1, hz1⟩ : ∃ z, y1.heap.size = z := ⟨_, rfl⟩
              have b2 := below_alloc y1 (.cells (repV r).toArray 30)
              have P2 := hid (show Pair nl w p5 p7 t' t [z1, q] (y1.alloc (.cells (repV r).toArray 30)) from P1.out.add b2 (L := [z1]) (by simp [hz1]))
              have K2 := hid (K1.out.below b2)
              have Z2 := hid (show Blk (y1.alloc (.cells (repV r).toArray 30)) z1 (repV r) 30 from by rw [← hz1]; exact blk_alloc y1 (repV r) 30)
              rw [hz1]
              clear b2 hz1 P1 K1 RQ D1
              generalize (y1.alloc (.cells (repV r).toArray 30)) = y2 at P2 K2 Z2 ⊢
              have d2 := P2.out.step2 fun S hS => ddo hS o.q Ho.out.q
              rw [hdo] at d2
              have D2 := hid d2
              have RQ := hid (show y2.rangeAt q 1 (reqV o.q) from blk_part K2.out 1 7)
              clear d2 hdo
              go_upto_region 19 with (first | (refine wpList_load_row6 (o := ⟨some 68, _, _, _, _, _⟩) 34 (.tmp 67) rfl rfl q 1 (reqV o.q) rfl RQ.out row_req size_req ?_) | (go_at_call 24; go_loud (refine D2.out.mono ?_; rintro e y3 ⟨rfl, hp, S, hc, hs⟩; have P3 := hid hp; have K3 := hid (K2.out.keep hc (fun m => hs q m (by simp))); have Z3 := hid (Z2.out.keep hc (fun m => hs z1 m (by simp))); clear hp hc hs; simp only [doRes])) | (refine wpListQ_alloc (o := ⟨some 14, _, _, _, _, _⟩) 30 rfl rfl zrep 6 info_rep ?_) | (refine wpListQ_store_new (o := ⟨none, _, 0, _, _, _⟩) rfl 30 (.tmp 14) (.tmp 70) rfl zrep (repV r).toArray rfl rfl size_rep rfl (all_oneCell_toArray (repV_one _)) ?_))
              obtain ⟨z3, hz3⟩ : ∃ z, y3.heap.size = z := ⟨_, rfl⟩
              have b4 := below_alloc y3 (.cells (repV r).toArray 30)
              have P4 := hid (P3.out.below b4)
              have K4 := hid (K3.out.below b4)
              have Z4 := hid (Z3.out.below b4)
              have Y4 := hid (show Blk (y3.alloc (.cells (repV r).toArray 30)) z3 (repV r) 30 from by rw [← hz3]; exact blk_alloc y3 (repV r) 30)
              rw [hz3]
              clear b4 hz3 P3 K3 Z3 RQ D2 P2 K2 Z2
              generalize (y3.alloc (.cells (repV r).toArray 30)) = y4 at P4 K4 Z4 Y4 ⊢
              have g0 := Z4.out.get 0 rfl
              have h0 := Y4.out.get 0 rfl
              have g1 := Z4.out.get 1 rfl
              have h1 := Y4.out.get 1 rfl
              have g2 := Z4.out.get 2 rfl
              have h2 := Y4.out.get 2 rfl
              have g3 := Z4.out.get 3 rfl
              have h3 := Y4.out.get 3 rfl
              have g4 := Z4.out.get 4 rfl
              have h4 := Y4.out.get 4 rfl
              have g5 := Z4.out.get 5 rfl
              have h5 := Y4.out.get 5 rfl
              go_wp2_with fail
              go_meet
              have R9 : PlMid w nl n q o p5 p7 (.bool true) y4 := ⟨rfl, t', p5, p7, rfl, rfl, HI'.out, P4.out.mono (by simp), K4.out⟩
              first | exact R9 | ((repeat apply Exists.intro); refine ⟨R9, ?_⟩; and_intros <;> rfl)
            · have e0 : ((o.dd : Int) == 0) = false := by rw [beq_eq_false_iff_ne]; omega
              have e1 : ((o.dd : Int) == 1) = false := by rw [beq_eq_false_iff_ne]; omega
              have e2 : ((o.dd : Int) == 2) = false := by rw [beq_eq_false_iff_ne]; omega
              have e3 : ((o.dd : Int) == 3) = true := by rw [beq_iff_eq]; omega
              have e4 : ((o.dd : Int) == 4) = false := by rw [beq_eq_false_iff_ne]; omega
              have e5 : ((o.dd : Int) == 5) = false := by rw [beq_eq_false_iff_ne]; omega
              have e6 : ((o.dd : Int) == 6) = false := by rw [beq_eq_false_iff_ne]; omega
              have e7 : ((o.dd : Int) == 7) = false := by rw [beq_eq_false_iff_ne]; omega
              clear h0
              obtain ⟨⟨t', r, d⟩, hdo⟩ : ∃ x, ndo nl t o.q = x := ⟨_, rfl⟩
              have HI' := hid (show Inv nl n t' from ⟨by have := ndo_fit I.out.fit o.q Ho.out.q; rw [hdo] at this; exact this, fun h => by have := ndo_nodes nl t o.q; rw [hdo] at this; exact this.trans (I.out.nodes h)⟩)
              have d1 := PQ.out.step1 fun S hS => cdo hS o.q Ho.out.q (HQ.out.below PQ.out.bel HQ.out.1)
              rw [hdo] at d1
              have D1 := hid d1
              have RQ := hid (show wq.rangeAt q 1 (reqV o.q) from blk_part KQ.out 1 7)
              clear d1
              go_upto_region 18 with (first | (refine wpList_load_row6 (o := ⟨some 61, _, _, _, _, _⟩) 34 (.tmp 60) rfl rfl q 1 (reqV o.q) rfl RQ.out row_req size_req ?_) | (go_at_call 11; go_loud (refine D1.out.mono ?_; rintro e y1 ⟨rfl, hp, S, hc, hs⟩; have P1 := hid hp; have K1 := hid (KQ.out.keep hc (fun m => hs q m (by simp))); clear hp hc hs; simp only [doRes])) | (refine wpListQ_alloc (o := ⟨some 12, _, _, _, _, _⟩) 30 rfl rfl zrep 6 info_rep ?_) | (refine wpListQ_store_new (o := ⟨none, _, 0, _, _, _⟩) rfl 30 (.tmp 12) (.tmp 63) rfl zrep (repV r).toArray rfl rfl size_rep rfl (all_oneCell_toArray (repV_one _)) ?_))
              obtain ⟨z1, hz1⟩ : ∃ z, y1.heap.size = z := ⟨_, rfl⟩
              have b2 := below_alloc y1 (.cells (repV r).toArray 30)
              have P2 := hid (show Pair nl w p5 p7 t' t [z1, q] (y1.alloc (.cells (repV r).toArray 30)) from P1.out.add b2 (L := [z1]) (by simp [hz1]))
              have K2 := hid (K1.out.below b2)
              have Z2 := hid (show Blk (y1.alloc (.cells (repV r).toArray 30)) z1 (repV r) 30 from by rw [← hz1]; exact blk_alloc y1 (repV r) 30)
              rw [hz1]
              clear b2 hz1 P1 K1 RQ D1
              generalize (y1.alloc (.cells (repV r).toArray 30)) = y2 at P2 K2 Z2 ⊢
              have d2 := P2.out.step2 fun S hS => ddo hS o.q Ho.out.q
              rw [hdo] at d2
              have D2 := hid d2
              have RQ := hid (show y2.rangeAt q 1 (reqV o.q) from blk_part K2.out 1 7)
              clear d2 hdo
              go_upto_region 19 with (first | (refine wpList_load_row6 (o := ⟨some 68, _, _, _, _, _⟩) 34 (.tmp 67) rfl rfl q 1 (reqV o.q) rfl RQ.out row_req size_req ?_) | (go_at_call 24; go_loud (refine D2.out.mono ?_; rintro e y3 ⟨rfl, hp, S, hc, hs⟩; have P3 := hid hp; have K3 := hid (K2.out.keep hc (fun m => hs q m (by simp))); have Z3 := hid (Z2.out.keep hc (fun m => hs z1 m (by simp))); clear hp hc hs; simp only [doRes])) | (refine wpListQ_alloc (o := ⟨some 14, _, _, _, _, _⟩) 30 rfl rfl zrep 6 info_rep ?_) | (refine wpListQ_store_new (o := ⟨none, _, 0, _, _, _⟩) rfl 30 (.tmp 14) (.tmp 70) rfl zrep (repV r).toArray rfl rfl size_rep rfl (all_oneCell_toArray (repV_one _)) ?_))
              obtain ⟨z3, hz3⟩ : ∃ z, y3.heap.size = z := ⟨_, rfl⟩
              have b4 := below_alloc y3 (.cells (repV r).toArray 30)
              have P4 := hid (P3.out.below b4)
              have K4 := hid (K3.out.below b4)
              have Z4 := hid (Z3.out.below b4)
              have Y4 := hid (show Blk (y3.alloc (.cells (repV r).toArray 30)) z3 (repV r) 30 from by rw [← hz3]; exact blk_alloc y3 (repV r) 30)
              rw [hz3]
              clear b4 hz3 P3 K3 Z3 RQ D2 P2 K2 Z2
              generalize (y3.alloc (.cells (repV r).toArray 30)) = y4 at P4 K4 Z4 Y4 ⊢
              have g0 := Z4.out.get 0 rfl
              have h0 := Y4.out.get 0 rfl
              have g1 := Z4.out.get 1 rfl
              have h1 := Y4.out.get 1 rfl
              have g2 := Z4.out.get 2 rfl
              have h2 := Y4.out.get 2 rfl
              have g3 := Z4.out.get 3 rfl
              have h3 := Y4.out.get 3 rfl
              have g4 := Z4.out.get 4 rfl
              have h4 := Y4.out.get 4 rfl
              have g5 := Z4.out.get 5 rfl
              have h5 := Y4.out.get 5 rfl
              go_wp2_with fail
              go_meet
              have R9 : PlMid w nl n q o p5 p7 (.bool true) y4 := ⟨rfl, t', p5, p7, rfl, rfl, HI'.out, P4.out.mono (by simp), K4.out⟩
              first | exact R9 | ((repeat apply Exists.intro); refine ⟨R9, ?_⟩; and_intros <;> rfl)
            · have e0 : ((o.dd : Int) == 0) = false := by rw [beq_eq_false_iff_ne]; omega
              have e1 : ((o.dd : Int) == 1) = false := by rw [beq_eq_false_iff_ne]; omega
              have e2 : ((o.dd : Int) == 2) = false := by rw [beq_eq_false_iff_ne]; omega
              have e3 : ((o.dd : Int) == 3) = false := by rw [beq_eq_false_iff_ne]; omega
              have e4 : ((o.dd : Int) == 4) = true := by rw [beq_iff_eq]; omega
              have e5 : ((o.dd : Int) == 5) = false := by rw [beq_eq_false_iff_ne]; omega
              have e6 : ((o.dd : Int) == 6) = false := by rw [beq_eq_false_iff_ne]; omega
              have e7 : ((o.dd : Int) == 7) = false := by rw [beq_eq_false_iff_ne]; omega
              clear h0
              obtain ⟨⟨t', e'⟩, hdo⟩ : ∃ x, nfin nl t o.q.job = x := ⟨_, rfl⟩
              have HI' := hid (show Inv nl n t' from ⟨by have := nfin_fit I.out.fit o.q.job; rw [hdo] at this; exact this, fun h => by have := nfin_nodes nl t o.q.job; rw [hdo] at this; exact this.trans (I.out.nodes h)⟩)
              have D1 := hid fun (W : World) (hW : Pair nl w p5 p7 t t [q] W) => (show Calls Tryd.prog 14 #[p5, .int .u32 (o.q.job : Int)] W (PTo1 nl w p5 p7 t' t [q] (.int .i64 e') W) from by
                have d := hW.step1 fun S hS => cfin hS o.q.job Ho.out.q.job
                rw [hdo] at d
                exact d)
              have D2 := hid fun (W : World) (hW : Pair nl w p5 p7 t' t [q] W) => (show Calls Tryd.prog 25 #[p7, .int .u32 (o.q.job : Int)] W (PTo1 nl w p5 p7 t' t' [q] (.int .i64 e') W) from by
                have d := hW.step2 fun S hS => dfin hS o.q.job Ho.out.q.job
                rw [hdo] at d
                exact d)
              have MKS := hid fun (W : World) (hW : Blk W q (jopV o) 48) => (show (W.cell? ⟨q, 7, none⟩ = some (.int .u32 (o.q.job : Int)) ∧ W.cell? ⟨q, 8, none⟩ = some (.int .i64 o.n)) from ⟨hW.get 7 rfl, hW.get 8 rfl⟩)
              clear hdo
              go_upto_region 21 with fail
              go_region_held_law (fun W => (W.cell? ⟨q, 7, none⟩ = some (.int .u32 (o.q.job : Int)) ∧ W.cell? ⟨q, 8, none⟩ = some (.int .i64 o.n)))
                ((refine MKS.out _ ?_; first | exact KQ.out.below (below_drew _) | exact K6.out | exact K5.out))
                (first
                  | (go_at_call 14; refine (D1.out _ (PQ.out.below (below_drew _))).mono ?_; rintro e w5 ⟨rfl, hp, S, hc, hs⟩; have P5 := hid hp; have K5 := hid ((KQ.out.below (below_drew _)).keep hc (fun m => hs q m (by simp))); clear hp hc hs)
                  | (go_at_call 25; refine (D2.out _ P5.out).mono ?_; rintro e w6 ⟨rfl, hp, S, hc, hs⟩; have P6 := hid hp; have K6 := hid (K5.out.keep hc (fun m => hs q m (by simp))); clear hp hc hs))
              all_goals
                go_wp2_with fail
                go_meet
                have R9 : PlMid w nl n q o p5 p7 (.bool true) w6 := ⟨rfl, t', p5, p7, rfl, rfl, HI'.out, P6.out, K6.out⟩
                first | exact R9 | ((repeat apply Exists.intro); refine ⟨R9, ?_⟩; and_intros <;> rfl)
            · have e0 : ((o.dd : Int) == 0) = false := by rw [beq_eq_false_iff_ne]; omega
              have e1 : ((o.dd : Int) == 1) = false := by rw [beq_eq_false_iff_ne]; omega
              have e2 : ((o.dd : Int) == 2) = false := by rw [beq_eq_false_iff_ne]; omega
              have e3 : ((o.dd : Int) == 3) = false := by rw [beq_eq_false_iff_ne]; omega
              have e4 : ((o.dd : Int) == 4) = false := by rw [beq_eq_false_iff_ne]; omega
              have e5 : ((o.dd : Int) == 5) = true := by rw [beq_iff_eq]; omega
              have e6 : ((o.dd : Int) == 6) = false := by rw [beq_eq_false_iff_ne]; omega
              have e7 : ((o.dd : Int) == 7) = false := by rw [beq_eq_false_iff_ne]; omega
              clear h0
              obtain ⟨⟨t', e'⟩, hdo⟩ : ∃ x, ncre nl t o.q.job o.n = x := ⟨_, rfl⟩
              have HI' := hid (show Inv nl n t' from ⟨by have := ncre_fit I.out.fit o.q.job o.n; rw [hdo] at this; exact this, fun h => by have := ncre_nodes nl t o.q.job o.n; rw [hdo] at this; exact this.trans (I.out.nodes h)⟩)
              have D1 := hid fun (W : World) (hW : Pair nl w p5 p7 t t [q] W) => (show Calls Tryd.prog 12 #[p5, .int .u32 (o.q.job : Int), .int .i64 o.n] W (PTo1 nl w p5 p7 t' t [q] (.int .i64 e') W) from by
                have d := hW.step1 fun S hS => ccre hS o.q.job o.n Ho.out.q.job Ho.out.n
                rw [hdo] at d
                exact d)
              have D2 := hid fun (W : World) (hW : Pair nl w p5 p7 t' t [q] W) => (show Calls Tryd.prog 26 #[p7, .int .u32 (o.q.job : Int), .int .i64 o.n] W (PTo1 nl w p5 p7 t' t' [q] (.int .i64 e') W) from by
                have d := hW.step2 fun S hS => dcre hS o.q.job o.n Ho.out.q.job Ho.out.n
                rw [hdo] at d
                exact d)
              have MKS := hid fun (W : World) (hW : Blk W q (jopV o) 48) => (show (W.cell? ⟨q, 7, none⟩ = some (.int .u32 (o.q.job : Int)) ∧ W.cell? ⟨q, 8, none⟩ = some (.int .i64 o.n)) from ⟨hW.get 7 rfl, hW.get 8 rfl⟩)
              clear hdo
              go_upto_region 23 with fail
              go_region_held_law (fun W => (W.cell? ⟨q, 7, none⟩ = some (.int .u32 (o.q.job : Int)) ∧ W.cell? ⟨q, 8, none⟩ = some (.int .i64 o.n)))
                ((refine MKS.out _ ?_; first | exact KQ.out.below (below_drew _) | exact K6.out | exact K5.out))
                (first
                  | (go_at_call 12; refine (D1.out _ (PQ.out.below (below_drew _))).mono ?_; rintro e w5 ⟨rfl, hp, S, hc, hs⟩; have P5 := hid hp; have K5 := hid ((KQ.out.below (below_drew _)).keep hc (fun m => hs q m (by simp))); clear hp hc hs)
                  | (go_at_call 26; refine (D2.out _ P5.out).mono ?_; rintro e w6 ⟨rfl, hp, S, hc, hs⟩; have P6 := hid hp; have K6 := hid (K5.out.keep hc (fun m => hs q m (by simp))); clear hp hc hs))
              all_goals
                go_wp2_with fail
                go_meet
                have R9 : PlMid w nl n q o p5 p7 (.bool true) w6 := ⟨rfl, t', p5, p7, rfl, rfl, HI'.out, P6.out, K6.out⟩
                first | exact R9 | ((repeat apply Exists.intro); refine ⟨R9, ?_⟩; and_intros <;> rfl)
            · have e0 : ((o.dd : Int) == 0) = false := by rw [beq_eq_false_iff_ne]; omega
              have e1 : ((o.dd : Int) == 1) = false := by rw [beq_eq_false_iff_ne]; omega
              have e2 : ((o.dd : Int) == 2) = false := by rw [beq_eq_false_iff_ne]; omega
              have e3 : ((o.dd : Int) == 3) = false := by rw [beq_eq_false_iff_ne]; omega
              have e4 : ((o.dd : Int) == 4) = false := by rw [beq_eq_false_iff_ne]; omega
              have e5 : ((o.dd : Int) == 5) = false := by rw [beq_eq_false_iff_ne]; omega
              have e6 : ((o.dd : Int) == 6) = true := by rw [beq_iff_eq]; omega
              have e7 : ((o.dd : Int) == 7) = false := by rw [beq_eq_false_iff_ne]; omega
              clear h0
              obtain ⟨st, hst, hst2⟩ : ∃ st : Nat, IntKind.u8.wrap o.n = (st : Int) ∧ st < 256 := by rw [IntKind.wrap_u8]; exact ⟨(o.n % 256).toNat, by omega, by omega⟩
              have HST := hid hst2
              clear hst2
              obtain ⟨⟨t', e'⟩, hdo⟩ : ∃ x, nsta nl t o.q.job st = x := ⟨_, rfl⟩
              have HI' := hid (show Inv nl n t' from ⟨by have := nsta_fit I.out.fit o.q.job st; rw [hdo] at this; exact this, fun h => by have := nsta_nodes nl t o.q.job st; rw [hdo] at this; exact this.trans (I.out.nodes h)⟩)
              have D1 := hid fun (W : World) (hW : Pair nl w p5 p7 t t [q] W) => (show Calls Tryd.prog 27 #[p5, .int .u32 (o.q.job : Int), .int .u8 (st : Int)] W (PTo1 nl w p5 p7 t' t [q] (.int .i64 e') W) from by
                have d := hW.step1 fun S hS => csta hS o.q.job st Ho.out.q.job HST.out
                rw [hdo] at d
                exact d)
              have D2 := hid fun (W : World) (hW : Pair nl w p5 p7 t' t [q] W) => (show Calls Tryd.prog 28 #[p7, .int .u32 (o.q.job : Int), .int .u8 (st : Int)] W (PTo1 nl w p5 p7 t' t' [q] (.int .i64 e') W) from by
                have d := hW.step2 fun S hS => dsta hS o.q.job st Ho.out.q.job HST.out
                rw [hdo] at d
                exact d)
              have MKS := hid fun (W : World) (hW : Blk W q (jopV o) 48) => (show (W.cell? ⟨q, 7, none⟩ = some (.int .u32 (o.q.job : Int)) ∧ W.cell? ⟨q, 8, none⟩ = some (.int .i64 o.n)) from ⟨hW.get 7 rfl, hW.get 8 rfl⟩)
              clear hdo
              go_upto_region 25 with fail
              go_region_held_law (fun W => (W.cell? ⟨q, 7, none⟩ = some (.int .u32 (o.q.job : Int)) ∧ W.cell? ⟨q, 8, none⟩ = some (.int .i64 o.n)))
                ((refine MKS.out _ ?_; first | exact KQ.out.below (below_drew _) | exact K6.out | exact K5.out))
                (first
                  | (go_at_call 27; refine (D1.out _ (PQ.out.below (below_drew _))).mono ?_; rintro e w5 ⟨rfl, hp, S, hc, hs⟩; have P5 := hid hp; have K5 := hid ((KQ.out.below (below_drew _)).keep hc (fun m => hs q m (by simp))); clear hp hc hs)
                  | (go_at_call 28; refine (D2.out _ P5.out).mono ?_; rintro e w6 ⟨rfl, hp, S, hc, hs⟩; have P6 := hid hp; have K6 := hid (K5.out.keep hc (fun m => hs q m (by simp))); clear hp hc hs))
              all_goals
                go_wp2_with fail
                go_meet
                have R9 : PlMid w nl n q o p5 p7 (.bool true) w6 := ⟨rfl, t', p5, p7, rfl, rfl, HI'.out, P6.out, K6.out⟩
                first | exact R9 | ((repeat apply Exists.intro); refine ⟨R9, ?_⟩; and_intros <;> rfl)
            · have e0 : ((o.dd : Int) == 0) = false := by rw [beq_eq_false_iff_ne]; omega
              have e1 : ((o.dd : Int) == 1) = false := by rw [beq_eq_false_iff_ne]; omega
              have e2 : ((o.dd : Int) == 2) = false := by rw [beq_eq_false_iff_ne]; omega
              have e3 : ((o.dd : Int) == 3) = false := by rw [beq_eq_false_iff_ne]; omega
              have e4 : ((o.dd : Int) == 4) = false := by rw [beq_eq_false_iff_ne]; omega
              have e5 : ((o.dd : Int) == 5) = false := by rw [beq_eq_false_iff_ne]; omega
              have e6 : ((o.dd : Int) == 6) = false := by rw [beq_eq_false_iff_ne]; omega
              have e7 : ((o.dd : Int) == 7) = true := by rw [beq_iff_eq]; omega
              clear h0
              obtain ⟨hb0, S1, S2, hc, hd, hdis, hG⟩ := PQ.out
              have I' := I.out
              cases nl
              case true =>
                obtain ⟨rfl, _⟩ := hd
                go_wp2_with fail
                go_meet
                have R9 : PlMid w true n q o p5 (.pointer none) (.bool true) wq := ⟨rfl, t, p5, .pointer none, rfl, rfl, I.out, PQ.out, KQ.out⟩
                first | exact R9 | ((repeat apply Exists.intro); refine ⟨R9, ?_⟩; and_intros <;> rfl)
              case false =>
                have hl1 := hc.lt
                have hl2 := hd.lt
                have hB := cbytes hc
                obtain ⟨X, av, xov, hp7, _, _⟩ := id hd
                subst hp7
                have HB := hid hB
                have HC := hid hc
                have HD := hid hd
                have hnd := (I'.nodes rfl)
                have HCR := hid fun (W : World) (a : Option Addr) (c : Nat) (hs : BS W a c (bytesT t)) (hx : ∀ x, a = some x → x.block < W.heap.size) (hw : w.heap.size ≤ W.heap.size) => (hnd ▸ cread (w0 := w) (I'.fit rfl).2 (I'.fit rfl).1 hs hx hw : Calls Tryd.prog 29 #[.slice a (bytesT t).length c, .int .i64 n] W fun e W' => ∃ p' S', e = .returned (.tuple #[p', .int .i64 0]) ∧ CT false w p' (plainT t) S' W' ∧ Below W.heap.size W W' ∧ ∀ k ∈ S', W.heap.size ≤ k)
                have HNI := hid (show Inv false n (plainT t) from ⟨fun h => ⟨(I'.fit h).1.plain, plainT_ok (I'.fit h).2⟩, fun h => (I'.nodes h)⟩)
                have HF' := hid (I'.fit rfl).1
                have HG := hid (show q < wq.heap.size ∧ q ∉ S1 ∧ q ∉ S2 from hG q (by simp))
                have HL2 := hid hl2
                have HB0 := hid hb0
                clear hb0 hc hd hdis hG I' hl1 hl2 hB hnd
                go_upto_region 29 with (first
                  | (go_at_call 20; go_loud (refine HB.out.mono ?_; rintro e w5 ⟨ab, cb, rfl, hbs, hx, hb⟩; have S5 := hid hbs; have X5 := hid hx; have B5 := hid hb; clear hbs hx hb))
                  | (go_at_call 29; go_loud (refine (HCR.out _ _ _ S5.out (fun x hx => (X5.out x hx).2) (Nat.le_trans HB0.out.size B5.out.size)).mono ?_; rintro e w6 ⟨p', S', rfl, hc, hb, hs⟩; have C6 := hid hc; have B6 := hid (B5.out.trans (hb.mono B5.out.size)); have H6 := hid (fun k (hk : k ∈ S') => Nat.le_trans B5.out.size (hs k hk)); clear hc hb hs)))
                have D6 := hid (HD.out.chg (Chg.of_below [] B6.out) (by simp))
                have HPl := hid (dplain D6.out HF'.out (Nat.le_trans HB0.out.size B6.out.size))
                go_wp2_with (go_at_call 30; go_loud (refine HPl.out.mono ?_; rintro e w7 ⟨p2', S'', rfl, hd, hb, hs⟩; have D7 := hid hd; have B7 := hid (B6.out.trans (hb.mono B6.out.size)); have C7 := hid (C6.out.chg (Chg.of_below [] hb) (by simp)); have H7 := hid (fun k (hk : k ∈ S'') => Nat.le_trans B6.out.size (hs k hk)); have H67 := hid (show ∀ k, k ∈ S' → k ∈ S'' → False from fun k h1 h2 => by have := (C6.out.lt k h1).2; have := hs k h2; omega); clear hd hb hs))
                have P7 : Pair false w p' p2' (plainT t) (plainT t) [q] w7 := ⟨HB0.out.trans (B7.out.mono HB0.out.size), S', S'', C7.out, D7.out, fun k h1 h2 => (H67.out k h1 h2).elim, fun g hg => by
                  simp at hg
                  subst hg
                  have h0 := HG.out
                  exact ⟨Nat.lt_of_lt_of_le h0.1 B7.out.size, fun hm => by have := H6.out g hm; omega, fun hm => by have := H7.out g hm; omega⟩⟩
                go_meet
                have R9 : PlMid w false n q o p' p2' (.bool true) w7 := ⟨rfl, plainT t, p', p2', rfl, rfl, HNI.out, P7, KQ.out.below B7.out⟩
                first | exact R9 | ((repeat apply Exists.intro); refine ⟨R9, ?_⟩; and_intros <;> rfl)
            · have e0 : ((o.dd : Int) == 0) = false := by rw [beq_eq_false_iff_ne]; omega
              have e1 : ((o.dd : Int) == 1) = false := by rw [beq_eq_false_iff_ne]; omega
              have e2 : ((o.dd : Int) == 2) = false := by rw [beq_eq_false_iff_ne]; omega
              have e3 : ((o.dd : Int) == 3) = false := by rw [beq_eq_false_iff_ne]; omega
              have e4 : ((o.dd : Int) == 4) = false := by rw [beq_eq_false_iff_ne]; omega
              have e5 : ((o.dd : Int) == 5) = false := by rw [beq_eq_false_iff_ne]; omega
              have e6 : ((o.dd : Int) == 6) = false := by rw [beq_eq_false_iff_ne]; omega
              have e7 : ((o.dd : Int) == 7) = false := by rw [beq_eq_false_iff_ne]; omega
              clear h0
              go_wp2_with fail
              go_meet
              have R9 : PlMid w nl n q o p5 p7 (.bool true) wq := ⟨rfl, t, p5, p7, rfl, rfl, I.out, PQ.out, KQ.out⟩
              first | exact R9 | ((repeat apply Exists.intro); refine ⟨R9, ?_⟩; and_intros <;> rfl)
          case rest =>
            clear PQ KQ I c0
            obtain ⟨rfl, t, p5, p7, rfl, rfl, hI, hP, hK⟩ := hcut
            have I := hid hI
            obtain ⟨wq, hwq⟩ : ∃ wq : World, wq = wc := ⟨_, rfl⟩
            subst hwq
            have PQ := hid hP
            have KQ := hid hK
            clear hI hP hK
            have c0 := KQ.out.get 0 rfl
            go_upto_if 147 with fail
            go_cut [5, 7, 11, 18, 19] from 145 to 169 (fun v5 v7 v11 _ _ w' => PlMid w nl n q o v5 v7 v11 w')
            case first =>
              by_cases h8 : o.dd = 8
              · have e8 : ((o.dd : Int) == 8) = true := by rw [beq_iff_eq]; omega
                clear h8
                obtain ⟨hb0, S1, S2, hc, hd, hdis, hG⟩ := PQ.out
                have hl1 := hc.lt
                have hl2 := hd.lt
                have DC := hid (dcopy hd hb0.size)
                have CC := hid fun (W : World) (hW : Below wq.heap.size wq W) => ccopy (hc.chg (Chg.of_below [] hW) (by simp)) (Nat.le_trans hb0.size hW.size)
                have HC := hid hc
                have HD := hid hd
                have HL1 := hid hl1
                have HL2 := hid hl2
                have HDis := hid hdis
                have HG := hid (show q < wq.heap.size ∧ q ∉ S1 ∧ q ∉ S2 from hG q (by simp))
                have HB0 := hid hb0
                have wk : IntKind.u32.wrap (k : Int) = (k : Int) := by rw [IntKind.wrap_u32]; omega
                have k32 := hid (show k < 4294967296 from by omega)
                clear hb0 hc hd hdis hG hl1 hl2
                go_upto_region 35 with (first
                  | (go_at_call 31; go_loud (refine DC.out.mono ?_; rintro e w5 ⟨p2', S2', rfl, hd2, hb, hs⟩; have D5 := hid hd2; have B5 := hid hb; have H5 := hid hs; clear hd2 hb hs))
                  | (go_at_call 18; go_loud (refine (CC.out _ B5.out).mono ?_; rintro e w6 ⟨p1', S1', rfl, hc2, hb, hs⟩; have C6 := hid hc2; have B6 := hid (B5.out.trans (hb.mono B5.out.size)); have D6 := hid (D5.out.chg (Chg.of_below [] hb) (by simp)); have H6 := hid hs; clear hc2 hb hs)))
                have L5 := hid (fun g (hg : g ∈ S2') => (D5.out.lt g hg).2)
                have B56 := hid (show wq.heap.size ≤ w5.heap.size from B5.out.size)
                have N6 := hid (show Pair nl w p1' p7 t t (q :: (S1 ++ S2')) w6 from ⟨HB0.out.trans (B6.out.mono HB0.out.size), S1', S2, C6.out, HD.out.chg (Chg.of_below [] B6.out) (by simp), fun g h1 h2 => by have := H6.out g h1; have := (HL2.out g h2).2; have := B56.out; omega, fun g hg => by
                  have hB := B6.out.size
                  have h56 := B56.out
                  rcases List.mem_cons.1 hg with rfl | hg
                  · have h0 := HG.out
                    exact ⟨by omega, fun hm => by have := H6.out g hm; omega, h0.2.2⟩
                  · rcases List.mem_append.1 hg with hg | hg
                    · have h1 := (HL1.out g hg).2
                      exact ⟨by omega, fun hm => by have := H6.out g hm; omega, HDis.out g hg⟩
                    · have h1 := L5.out g hg
                      have h2 := H5.out g hg
                      exact ⟨Nat.lt_of_lt_of_le (D6.out.lt g hg).2 (Nat.le_refl _), fun hm => by have := H6.out g hm; omega, fun hm => by have := (HL2.out g hm).2; omega⟩⟩)
                have O6 := hid (show CT nl w p5 t S1 w6 ∧ DT nl w p2' t S2' w6 from ⟨HC.out.chg (Chg.of_below [] B6.out) (by simp), D6.out⟩)
                have KQ6 := hid (KQ.out.below B6.out)
                clear DC CC C6 D6 D5 H5 H6 B5 B6 HC HD
                obtain ⟨⟨t', r', d'⟩, hdo⟩ : ∃ x, ndo nl t (subQ k) = x := ⟨_, rfl⟩
                have HI' := hid (show Inv nl n t' from ⟨by have := ndo_fit I.out.fit (subQ k) (subQ_ok k k32.out); rw [hdo] at this; exact this, fun h => by have := ndo_nodes nl t (subQ k); rw [hdo] at this; exact this.trans (I.out.nodes h)⟩)
                have keepO := hid fun (W W' : World) (S : List Nat) (hc : Chg S W W') (hs : ∀ g ∈ S, g ∉ q :: (S1 ++ S2')) (h : CT nl w p5 t S1 W ∧ DT nl w p2' t S2' W) => (show CT nl w p5 t S1 W' ∧ DT nl w p2' t S2' W' from ⟨h.1.chg hc (fun g hg hm => hs g hm (by simp [hg])), h.2.chg hc (fun g hg hm => hs g hm (by simp [hg]))⟩)
                have D1 := hid fun (W : World) (hW : Pair nl w p1' p7 t t (q :: (S1 ++ S2')) W) => (show Calls Tryd.prog 11 #[p1', .agg (reqV (subQ k)).toArray] W (PTo1 nl w p1' p7 t' t (q :: (S1 ++ S2')) (doRes (r', d')) W) from by
                  have d := hW.step1 fun S hS => cdo hS (subQ k) (subQ_ok k k32.out) (HQ.out.below hW.bel HQ.out.1)
                  rw [hdo] at d
                  exact d)
                have D2 := hid fun (W : World) (hW : Pair nl w p1' p7 t' t (q :: (S1 ++ S2')) W) => (show Calls Tryd.prog 24 #[p7, .agg (reqV (subQ k)).toArray] W (PTo1 nl w p1' p7 t' t' (q :: (S1 ++ S2')) (doRes (r', d')) W) from by
                  have d := hW.step2 fun S hS => ddo hS (subQ k) (subQ_ok k k32.out)
                  rw [hdo] at d
                  exact d)
                clear hdo
                go_upto_region 36 with (first
                  | (go_at_call 15; go_loud (refine (subreq_calls _ k k32.out).mono ?_; rintro e w7 ⟨rfl, hb⟩; have N7 := hid (N6.out.below hb); have O7 := hid (keepO.out _ _ [] (Chg.of_below [] hb) (by simp) O6.out); have KQ7 := hid (KQ6.out.below hb); clear hb))
                  | (go_at_call 11; go_loud (refine (D1.out _ N7.out).mono ?_; rintro e w8 ⟨rfl, hp, S, hc, hs⟩; have N8 := hid hp; have O8 := hid (keepO.out _ _ S hc hs O7.out); have KQ8 := hid (KQ7.out.keep hc (fun m => hs q m (by simp))); clear hp hc hs)))
                go_upto_region 37 with (first
                  | (go_at_call 15; go_loud (refine (subreq_calls _ k k32.out).mono ?_; rintro e w9 ⟨rfl, hb⟩; have N9 := hid (N8.out.below hb); have O9 := hid (keepO.out _ _ [] (Chg.of_below [] hb) (by simp) O8.out); have KQ9 := hid (KQ8.out.below hb); clear hb))
                  | (go_at_call 24; go_loud (refine (D2.out _ N9.out).mono ?_; rintro e wa ⟨rfl, hp, S, hc, hs⟩; have Na := hid hp; have Oa := hid (keepO.out _ _ S hc hs O9.out); have KQa := hid (KQ9.out.keep hc (fun m => hs q m (by simp))); clear hp hc hs)))
                have ca := KQa.out.get 7 rfl
                have AL := hid (calike Oa.out.1 Oa.out.2 o.q.job Ho.out.q.job)
                go_wp2_with (go_at_call 32; go_loud (refine AL.out.mono ?_; rintro e wb ⟨rfl, hb⟩; have Nb := hid (Na.out.below hb); have KQb := hid (KQa.out.below hb); clear hb))
                go_meet
                have R9 : PlMid w nl n q o p1' p7 (.bool true) wb := ⟨rfl, t', p1', p7, rfl, rfl, HI'.out, Nb.out.mono (by simp), KQb.out⟩
                first | exact R9 | ((repeat apply Exists.intro); refine ⟨R9, ?_⟩; and_intros <;> rfl)
              · have e8 : ((o.dd : Int) == 8) = false := by rw [beq_eq_false_iff_ne]; omega
                clear h8
                go_wp2_with fail
                go_meet
                have R9 : PlMid w nl n q o p5 p7 (.bool true) wq := ⟨rfl, t, p5, p7, rfl, rfl, I.out, PQ.out, KQ.out⟩
                first | exact R9 | ((repeat apply Exists.intro); refine ⟨R9, ?_⟩; and_intros <;> rfl)
            case rest =>
              clear PQ KQ I c0
              obtain ⟨rfl, t, p5, p7, rfl, rfl, hI, hP, hK⟩ := hcut
              have I := hid hI
              obtain ⟨we, hwe⟩ : ∃ we : World, we = wc := ⟨_, rfl⟩
              subst hwe
              have PE := hid hP
              have KE := hid hK
              clear hI hP hK
              have c7 := KE.out.get 7 rfl
              obtain ⟨_, T1, T2, hc, hd, _⟩ := PE.out
              have AL := hid (calike hc hd o.q.job Ho.out.q.job)
              clear hc hd
              go_wp2_with (go_at_call 32; go_loud (refine AL.out.mono ?_; rintro e wz ⟨rfl, hb⟩; have PZ := hid (PE.out.below hb); clear hb))
              have hkl := HKL.out
              have R : PlRel w nl n l0.length p5 p7 (.int .i64 ((k : Int) + 1)) wz := ⟨k + 1, t, p5, p7, rfl, rfl, by simp, hkl, by omega, I.out, PZ.out.mono (by simp)⟩
              refine ⟨?_, ?_⟩
              · first | exact R | ((repeat apply Exists.intro); refine ⟨R, ?_⟩; and_intros <;> rfl)
              · simp [intOf]
                omega
        · have h100' : (100 : Int) ≤ (k : Int) := by omega
          clear h100
          go_wp2_with fail
          go_ret
          exact ⟨rfl, PQ.out.bel⟩
      · have hkl' : ¬ ((k : Int) < (l0.length : Int)) := by omega
        clear hkl
        go_wp2_with fail
        go_ret
        exact ⟨rfl, P.out.bel⟩
end Go.Proofs.YtombndhjoaaaiaaDoor
