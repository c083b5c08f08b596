/- ImageApart: what is put of one job, or dropped, leaves all others as they are. -/
import Derived.Test.YtoapibbbooongaaDoorImgY
import Derived.Deep.RegionHeldLaw
namespace Go.Proofs.YtoapibbbooongaaDoor
open Go.RowKit Go.Quad _root_.Quad _root_.Quad.Slab

theorem wpList_load_rowI {P : Program} {w : World} {ops : Array Oper} {rest : List Oper} {o : Oper} {ac : Act} {Q : Exit → Act → World → Prop}
    (t : TypeId) (x : Operand) (ho : o.op = .load t x) (hw : Region.wanted o (yielded ops ac.tmps) = true) (g off : Nat) (cs : List Value) (hx : ac.eval x = .pointer (some ⟨g, off, none⟩)) (hB : w.rangeAt g off cs)
    (hu : ∃ d, P.underlying t = some d ∧ d.isRow = true) (hi : (P.info? t).map (·.size) = some cs.length)
    (hK : wpList P ops Q rest (ac.put o.dst (.agg cs.toArray)) w) : wpList P ops Q (o :: rest) ac w := by
  obtain ⟨d, h1, h2⟩ := hu
  have hr := run_loadAt_mid (P := P) w g off t cs d hB h1 h2 hi
  refine wpList_by (fun v w' => v = .agg cs.toArray ∧ w' = w) hw ⟨_, _, ?_, rfl, rfl⟩ (by rintro v w' ⟨rfl, rfl⟩; exact hK)
  simp only [execOp, ho, hx, Sem.run_bind, hr, Result.andThen_ok, Sem.run_pure]
def zrefA : Array Value := #[.int .u32 0, .int .u32 0, .int .i64 0, .slice none 0 0, .slice none 0 0]
theorem info_ref : (Tryd.prog.info? 53).map (fun i => (i.zero, i.size)) = some (some (.agg zrefA), 5) := by kernel_rfl
theorem size_ref : (Tryd.prog.info? 53).map (·.size) = some 5 := by kernel_rfl
theorem info_refs : (Tryd.prog.info? 53).map (fun i => (i.zero, i.size, i.bytes)) = some (some (.agg zrefA), 5, 64) := by kernel_rfl
theorem under_refs : Tryd.prog.underlying 50 = some (.slice 53) := by kernel_rfl
def zimgA : Array Value := #[.int .u32 0, .int .u32 0, .int .i64 0, .slice none 0 0]
theorem info_img : (Tryd.prog.info? 36).map (fun i => (i.zero, i.size)) = some (some (.agg zimgA), 4) := by kernel_rfl
theorem size_img : (Tryd.prog.info? 36).map (·.size) = some 4 := by kernel_rfl
theorem RefR.V_one (r : RefR) : ∀ u ∈ r.V, u.oneCell' = true := by
  intro u hu
  simp only [RefR.V, refV, List.mem_cons, List.not_mem_nil, or_false] at hu
  rcases hu with rfl | rfl | rfl | rfl | rfl <;> rfl
/-- the store behind so many puts -/
structure ApI (m : Nat) (I : Im) : Prop where
  inv : Inv I
  used : I.used.length = 120
  from' : I.from' = 0
  steps : I.sl.steps ≤ 19 * m
  done : I.sl.done.length = 120
  few : I.L.length ≤ m
theorem ApI.mono {m n : Nat} {I : Im} (h : ApI m I) (hn : m ≤ n) : ApI n I := ⟨h.inv, h.used, h.from', by have := h.steps; omega, h.done, by have := h.few; omega⟩
theorem ApI.put {m : Nat} {I : Im} {x : Img} (h : ApI m I) (hj : x.job < 4294967296) (hv : x.ver < 4294967296) : ApI (m + 1) (putI I x).1 := by
  obtain ⟨h1, h2, h3, h4, h5, h6⟩ := h.inv.put' hj hv
  exact ⟨h1, by rw [h2, h.used], by rw [h3, h.from'], by have := h.steps; omega, by rw [h5, h.done], by have := put_len h.inv hj hv; have := h.few; omega⟩
def ApTo (w : World) (e : Ending) (w' : World) : Prop := e = .returned (.bool true) ∧ Below w.heap.size w w'
def ApRel (w1 : World) (g c N : Nat) (iv : Value) (wr : World) : Prop :=
  ∃ (k : Nat) (I : Im), iv = .int .i64 (k : Int) ∧ k ≤ N ∧ LS w1 wr.heap.size g c I wr ∧ ApI (min k 12) I
def ApGood (I : Im) (j : Nat) (l : List WS) : Prop := ∀ p ∈ l, p.x.job ≠ j ∧ findI I.L p.x.job = some p.x ∧ p.x.job < 4294967296
def ApRel2 (w5 : World) (I : Im) (j : Nat) (wv iv : Value) (wr : World) : Prop :=
  ∃ (k : Nat) (l : List WS), iv = .int .i64 (k : Int) ∧ k ≤ I.L.length ∧ l.length ≤ k ∧ Was w5.heap.size wr wv l ∧ ApGood I j l ∧ Below w5.heap.size w5 wr
def ApRel3 (w6 : World) (N : Nat) (iv : Value) (wr : World) : Prop := ∃ k : Nat, iv = .int .i64 (k : Int) ∧ k ≤ N ∧ Below w6.heap.size w6 wr
set_option maxRecDepth 100000 in
set_option maxHeartbeats 20000000 in
theorem imageApart_walk (v0 v1 : Value) (dr : Bool) (w : World) (h0 : RV Tryd.prog w 50 v0) (h1 : RV Tryd.prog w 53 v1) (hq : Laid w) :
    Calls Tryd.prog 5 #[v0, v1, .bool dr] w (ApTo w) := by
  obtain ⟨la, lc, l0, rfl, hok, hcs, hlc⟩ := refs_open h0
  obtain ⟨X, rfl, hX⟩ := ref_open h1
  have HQ := hid hq
  have Hok := hid hok
  have Hcs := hid hcs
  have HX := hid hX
  have hl63 : (l0.length : Int) ≤ 9223372036854775807 := by have h2 := hcs.max; unfold maxLen at h2; omega
  clear hq hok hcs hX hlc h0 h1
  go_enter Tryd.func5, Tryd.ntmps5
  go_upto_region 1 with fail
  have ba := below_alloc w (.cells X.V.toArray 53)
  have xa := blk_alloc w X.V 53
  obtain ⟨xq, hxq⟩ : ∃ xq, w.heap.size = xq := ⟨_, rfl⟩
  rw [hxq] at xa ⊢
  have BA := hid ba
  have XA := hid xa
  have HXQ := hid hxq
  clear ba xa hxq
  have LA := hid (HQ.out.below BA.out HQ.out.1)
  generalize (w.alloc (.cells X.V.toArray 53)) = wa at BA XA LA ⊢
  go_upto_region 3 with (go_at_call 11; refine (iawake_calls wa LA.out).mono ?_; rintro e w1 ⟨rfl, hb1⟩; have B1 := hid hb1; clear hb1; dsimp only)
  have L1 := hid (LA.out.below B1.out LA.out.1)
  have X1 := hid (XA.out.below B1.out)
  have BW1 := hid (BA.out.trans (B1.out.mono BA.out.size))
  obtain ⟨ho, hi0⟩ := open_new (n := 120) (f := 0) (t := 120) (e := 1) (by omega) (by omega) (by omega) (by omega)
  have HO := hid (show openI (newL 120) 0 120 1 = _ from ho)
  have HI0 := hid hi0
  clear ho hi0
  go_upto_region 4 with (go_at_call 12; refine (sa_new w1 120 (by omega)).mono ?_; rintro e w2 ⟨g, rfl, h2⟩; have S2 := hid h2; clear h2; dsimp only)
  go_upto_region 7 with (go_at_call 13; refine (ls_open w1 w2 g (newL 120) 0 120 1 _ S2.out L1.out (by decide) (by decide) (by decide) (by simp [newL]) HO.out).mono ?_; rintro e w3 ⟨c, rfl, h3, hb3⟩; have L3 := hid h3; clear h3 hb3; dsimp only)
  have A0 := hid (show ApI 0 ⟨newL 120, 0, 1, [], List.replicate (120 - 0) false, false⟩ from ⟨HI0.out, by simp, rfl, Nat.le_refl _, by simp [newL], Nat.le_refl _⟩)
  have HXL := hid (show xq < w1.heap.size from X1.out.lt)
  have R0 := hid (show ApRel w1 g c l0.length (.int .i64 0) w3 from ⟨0, _, rfl, Nat.zero_le _, L3.out, A0.out⟩)
  clear S2 L3 HO HI0 A0
  go_wp2_with fail
  go_loopw [11, 12, 41] (fun _ _ iv wr => ApRel w1 g c l0.length iv wr) (fun _ _ iv _ => l0.length - (intOf iv).toNat)
  case atStart => exact R0.out
  case round =>
    clear R0
    obtain ⟨k, I, rfl, hk, hL, hA⟩ := hrel
    have LL := hid hL
    have AI := hid hA
    have BW := hid (BW1.out.trans (hL.1.mono BW1.out.size))
    clear hL hA
    by_cases hkl : k < l0.length
    · have hkl' : (k : Int) < (l0.length : Int) := by omega
      have Ho := hid (Hok.out _ (List.getElem_mem hkl))
      obtain ⟨bo, off, rfl, hc⟩ := cs_row RefR.V_length Hcs.out hkl (by decide)
      have HR := hid (show wr.rangeAt bo (off + k * 5) (l0[k]).V from fun j v hv => cell_later BW.out (hc j v hv))
      clear hc
      generalize l0[k] = o at Ho HR
      have KQ := hid (blk_alloc wr o.V 53)
      have bq := below_alloc wr (.cells o.V.toArray 53)
      have LQ := hid ((LL.out.below bq).more bq.size (Nat.le_refl _))
      have WQ := hid (BW.out.trans (bq.mono BW.out.size))
      go_upto_region 10 with (first | (refine wpList_load_rowI (o := ⟨some 45, _, _, _, _, _⟩) 53 (.tmp 44) rfl rfl bo (off + k * 5) o.V rfl HR.out ⟨_, Tryd.underlying53, rfl⟩ size_ref ?_) | (refine wpListQ_alloc (o := ⟨some 12, _, _, _, _, _⟩) 53 rfl rfl zrefA 5 info_ref ?_) | (refine wpListQ_store_new (o := ⟨none, _, 0, _, _, _⟩) rfl 53 (.tmp 12) (.tmp 45) rfl zrefA o.V.toArray rfl rfl size_ref rfl (all_oneCell_toArray (RefR.V_one o)) ?_))
      generalize (wr.alloc (.cells o.V.toArray 53)) = wq at KQ bq LQ WQ ⊢
      obtain ⟨q, hq⟩ : ∃ q, wr.heap.size = q := ⟨_, rfl⟩
      rw [hq] at KQ ⊢
      clear hq HR
      by_cases h12 : k < 12
      · have h12' : (k : Int) < 12 := by omega
        have HF := hid (show Calls Tryd.prog 22 #[.agg o.V.toArray] wq (FewTo wq o.x) from few_calls wq Anyw o.x _ _ _ _ _ _ (Ho.out.bl.below WQ.out) Ho.out.len)
        have AI2 := hid (show ApI (min (k + 1) 12) (putI I (fewI o.x)).1 from by
          have h := AI.out
          rw [Nat.min_eq_left (by omega)] at h
          rw [Nat.min_eq_left (by omega)]
          exact h.put (x := fewI o.x) Ho.out.job Ho.out.ver)
        go_upto_region 12 with (first | (refine wpList_load_blk (o := ⟨some 49, _, _, _, _, _⟩) 53 (.tmp 12) rfl rfl q _ 53 rfl KQ.out ⟨_, Tryd.underlying53, rfl⟩ size_ref ?_) | (go_at_call 22; go_must (refine HF.out.mono ?_; rintro e w5 ⟨ts, bv, rfl, hts, htx, hb5⟩; have TX := hid htx; obtain ⟨a5, n5, c5, rfl, _, _, _⟩ := htx.rb.cs; have TS5 := hid hts; have B5 := hid hb5; clear htx hts hb5; dsimp only)) | (go_at_call 21; go_must (refine (of_calls w5 o.x a5 n5 c5 none 0 0).mono ?_; rintro e w6 ⟨rfl, hb6⟩; have B6 := hid hb6; clear hb6; dsimp only)) | (go_at_call 14; go_must (refine (ls_putc w1 w6 wq.heap.size g c I (fewI o.x) a5 n5 c5 ((LQ.out.below B5.out).below B6.out) (by have h := (TX.out.bl.below B6.out).wider (Q' := fun k => wq.heap.size ≤ k) fun k hk => hk.1; rw [TS5.out] at h; exact h) Ho.out.job Ho.out.ver Ho.out.credit L1.out (by have := AI.out.steps; omega) (by rw [AI.out.inv.way]; decide)).mono ?_; rintro e w7 ⟨rfl, h7, _⟩; have L7 := hid h7; clear h7; dsimp only)))
        have R : ApRel w1 g c l0.length (.int .i64 ((k : Int) + 1)) w7 := ⟨k + 1, _, rfl, hkl, L7.out, AI2.out⟩
        have HR := hid R
        clear R
        go_wp2_with fail
        refine ⟨?_, by simp [intOf]; omega⟩
        first | exact HR.out | ((repeat apply Exists.intro); refine ⟨HR.out, ?_⟩; and_intros <;> rfl)
      · have h12' : ¬ ((k : Int) < 12) := by omega
        have R : ApRel w1 g c l0.length (.int .i64 ((k : Int) + 1)) wq := ⟨k + 1, I, rfl, hkl, LQ.out, AI.out.mono (by omega)⟩
        have HR := hid R
        clear R
        go_wp2_with fail
        refine ⟨?_, by simp [intOf]; omega⟩
        first | exact HR.out | ((repeat apply Exists.intro); refine ⟨HR.out, ?_⟩; and_intros <;> rfl)
    · have hkl' : ¬ ((k : Int) < (l0.length : Int)) := by omega
      have XR := hid (X1.out.below LL.out.1)
      have A12 := hid (AI.out.mono (Nat.min_le_right _ _))
      have HF := hid (show Calls Tryd.prog 22 #[.agg X.V.toArray] wr (FewTo wr X.x) from few_calls wr Anyw X.x _ _ _ _ _ _ (HX.out.bl.below BW.out) HX.out.len)
      have HRX := hid (show xq < wr.heap.size from Nat.lt_of_lt_of_le HXL.out LL.out.1.size)
      go_upto_region 13 with fail
      go_upto_region 14 with (first | (refine wpList_load_blk (o := ⟨some 54, _, _, _, _, _⟩) 53 (.tmp 4) rfl rfl xq _ 53 rfl XR.out ⟨_, Tryd.underlying53, rfl⟩ size_ref ?_) | (go_at_call 22; go_must (refine HF.out.mono ?_; rintro e w5 ⟨ts, bv, rfl, hts, htx, hb5⟩; have TX := hid htx; obtain ⟨a5, n5, c5, rfl, _, _, _⟩ := htx.rb.cs; have TS5 := hid hts; have B5 := hid hb5; clear htx hts hb5; dsimp only)) | (refine wpList_store_blk (o := ⟨none, _, 0, _, _, _⟩) 53 (.tmp 4) (.tmp 55) rfl rfl xq X.V (refV X.x (.slice a5 n5 c5) (.slice none 0 0)) 53 rfl rfl (XR.out.below B5.out) rfl size_ref (by simp [refV, Value.oneCell']) ?_; intro wE hZE hCE; have ZE := hid hZE; have CE := hid hCE; clear hZE hCE))
      obtain ⟨wg, hg1, hg2, hg3⟩ := graft w1 wE xq HXL.out ZE.out.lt
      have LG := hid (show LS wg wr.heap.size g c I wE from ls_rebase (LL.out.below B5.out) CE.out HXL.out hg1 hg2 hg3)
      have BG := hid (show Below w.heap.size w wg from BW1.out.trans (hg1.below BW1.out.size (by intro j hj; rw [List.mem_singleton] at hj; have := HXQ.out; omega)))
      have LD := hid (show Laid wg from HQ.out.below BG.out HQ.out.1)
      have HGX := hid (show xq < wg.heap.size from by rw [hg2]; exact HXL.out)
      have TXE := hid (show Texts wr wE ts (.slice a5 n5 c5) from TX.out.keep CE.out (by intro j hj; rw [List.mem_singleton] at hj; have := HRX.out; omega))
      clear hg1 hg2 hg3
      obtain ⟨n, hn⟩ : ∃ n, wr.heap.size = n := ⟨_, rfl⟩
      rw [hn] at LG
      have TB := hid (show BL wE (fun k => n ≤ k) (.slice a5 n5 c5) (fewI X.x).blobs from (by have h := TXE.out.bl.wider (Q' := fun k => n ≤ k) (fun k hk => by rw [← hn]; exact hk.1); rw [TS5.out] at h; exact h))
      have HNE := hid (show n ≤ wE.heap.size from LG.out.2.1)
      clear hn LL HRX XR HF AI BW TXE TX B5 CE
      have HLI := hid (ls_list wg wE n g c I LG.out (by have := A12.out.few; omega))
      clear TS5
      go_wp2_with (go_at_call 23; go_must (refine HLI.out.mono ?_; rintro e w5 ⟨a7, c7, rfl, hjl, hb5⟩; have JL := hid hjl; have B5 := hid hb5; clear hjl hb5; dsimp only))
      have Z5 := hid (ZE.out.below B5.out)
      have L5 := hid (LG.out.below B5.out)
      have T5 := hid (TB.out.below B5.out)
      have N5 := hid (show n ≤ w5.heap.size from Nat.le_trans HNE.out B5.out.size)
      have J5 := hid (show ∃ a c, (.slice a7 I.L.length c7 : Value) = .slice a I.L.length c ∧ CS w5 a c 1 (I.L.flatMap jobV') from (by obtain ⟨a', n', c', e1, e2, _, h3⟩ := JL.out.cs; subst e2; exact ⟨a', c', e1, h3⟩))
      have CJ := hid (show CS w5 a7 c7 1 (I.L.flatMap jobV') from (by obtain ⟨a', c', e1, h3⟩ := J5.out; cases e1; exact h3))
      have hI63 : (I.L.length : Int) ≤ 12 := by have := A12.out.few; omega
      have W5 := hid (Was.nil w5.heap.size w5)
      have R20 := hid (show ApRel2 w5 I X.x.job (.slice none 0 0) (.int .i64 0) w5 from ⟨0, [], rfl, Nat.zero_le _, Nat.le_refl _, W5.out, fun p hp => (by cases hp), Below.refl _ _⟩)
      clear JL J5 ZE LG TB HNE B5 HLI W5
      go_loopw [13, 15, 16, 17, 59] (fun wv _ _ _ iv wr => ApRel2 w5 I X.x.job wv iv wr) (fun _ _ _ _ iv _ => I.L.length - (intOf iv).toNat)
      case atStart => exact R20.out
      case round =>
        clear R20
        obtain ⟨k2, l, rfl, hk2, hll, hw, hgd, hb⟩ := hrel
        have WS2 := hid hw
        have GD := hid hgd
        have BR := hid hb
        have N6 := hid (show w5.heap.size ≤ wr.heap.size from hb.size)
        clear hw hgd hb
        by_cases hkl2 : k2 < I.L.length
        · have hkl2' : (k2 : Int) < (I.L.length : Int) := by omega
          obtain ⟨bo, off, rfl, hc⟩ := cs_row jobV'_length (CJ.out.below BR.out) hkl2 (by decide)
          have d0 := hc 0 _ rfl
          have hjlt : (I.L[k2]).job < 4294967296 := (A12.out.inv.ok _ (List.getElem_mem hkl2)).job.2
          rw [Nat.add_zero, Nat.mul_one] at d0
          clear hc
          obtain ⟨jb, hjb⟩ : ∃ jb, (I.L[k2]).job = jb := ⟨_, rfl⟩
          rw [hjb] at d0 hjlt
          clear hjb
          obtain ⟨r, hr⟩ : ∃ r, findI I.L jb = r := ⟨_, rfl⟩
          have HG := hid (ls_get wg wr n g c I (L5.out.below BR.out) (small_L A12.out.inv) jb hjlt)
          rw [hr] at HG
          have HR := hid hr
          have HJL := hid hjlt
          clear hr hjlt
          have x0 := (Z5.out.below BR.out).get 0 rfl
          cases r with
          | none =>
            go_upto_region 19 with (first | (go_at_call 15; go_must (refine HG.out.mono ?_; rintro e w7 ⟨hb7, rfl⟩; have B7 := hid hb7; clear hb7; dsimp only)) | (refine wpListQ_alloc (o := ⟨some 16, _, _, _, _, _⟩) 36 rfl rfl zimgA 4 info_img ?_) | (refine wpListQ_store_new (o := ⟨none, _, 0, _, _, _⟩) rfl 36 (.tmp 16) (.tmp 67) rfl zimgA zimg.toArray rfl rfl size_img rfl (by simp [zimg, Value.oneCell']) ?_))
            have hb8 := below_alloc w7 (.cells zimg.toArray 36)
            have B8 := hid (B7.out.trans (hb8.mono B7.out.size))
            generalize (w7.alloc (.cells zimg.toArray 36)) = w8 at B8 ⊢
            have R : ApRel2 w5 I X.x.job u13 (.int .i64 ((k2 : Int) + 1)) w8 := ⟨k2 + 1, l, rfl, hkl2, Nat.le_succ_of_le hll, WS2.out.below B8.out, GD.out, BR.out.trans (B8.out.mono BR.out.size)⟩
            have HRR := hid R
            clear R hb8
            go_wp2_with fail
            refine ⟨?_, by simp [intOf]; omega⟩
            first | exact HRR.out | ((repeat apply Exists.intro); refine ⟨HRR.out, ?_⟩; and_intros <;> rfl)
          | some x' =>
            have hxj : x'.job = jb := (find_some HR.out).2
            have hHG := HG.out
            unfold GetTo at hHG
            dsimp only at hHG
            have HG := hid hHG
            clear hHG
            have HXJ := hid hxj
            clear hxj
            go_upto_region 19 with (first | (go_at_call 15; go_must (refine HG.out.mono ?_; rintro e w7 ⟨hb7, ts7, bv7, rfl, hts7, htx7⟩; have B7 := hid hb7; have TX7 := hid htx7; have TS7 := hid hts7; obtain ⟨a8, n8, c8, rfl, _, _, _⟩ := htx7.rb.cs; clear hb7 hts7 htx7; dsimp only)) | (refine wpListQ_alloc (o := ⟨some 16, _, _, _, _, _⟩) 36 rfl rfl zimgA 4 info_img ?_) | (refine wpListQ_store_new (o := ⟨none, _, 0, _, _, _⟩) rfl 36 (.tmp 16) (.tmp 67) rfl zimgA (imgV x' (.slice a8 n8 c8)).toArray rfl rfl size_img rfl (by simp [imgV, Value.oneCell']) ?_))
            have hb8 := below_alloc w7 (.cells (imgV x' (.slice a8 n8 c8)).toArray 36)
            have B8 := hid (B7.out.trans (hb8.mono B7.out.size))
            have K8 := hid (blk_alloc w7 (imgV x' (.slice a8 n8 c8)) 36)
            have hbl := TX7.out.bl
            rw [TS7.out] at hbl
            obtain rfl : n8 = x'.blobs.length := hbl.len.1
            have BL8 := hid ((hbl.below hb8).wider (Q' := fun k => wr.heap.size ≤ k ∧ k < (w7.alloc (.cells (imgV x' (.slice a8 x'.blobs.length c8)).toArray 36)).heap.size) fun k hk => ⟨hk.1, Nat.lt_of_lt_of_le hk.2 hb8.size⟩)
            clear hbl TX7 TS7
            obtain ⟨z8, hz8⟩ : ∃ z8, w7.heap.size = z8 := ⟨_, rfl⟩
            rw [hz8] at K8 ⊢
            clear hb8 hz8 B7
            generalize (w7.alloc (.cells (imgV x' (.slice a8 x'.blobs.length c8)).toArray 36)) = w8 at B8 K8 BL8 ⊢
            have x8 := ((Z5.out.below BR.out).below B8.out).get 0 rfl
            by_cases hjx : jb = X.x.job
            · subst hjx
              have R : ApRel2 w5 I X.x.job u13 (.int .i64 ((k2 : Int) + 1)) w8 := ⟨k2 + 1, l, rfl, hkl2, Nat.le_succ_of_le hll, WS2.out.below B8.out, GD.out, BR.out.trans (B8.out.mono BR.out.size)⟩
              have HRR := hid R
              clear R
              go_wp2_with fail
              refine ⟨?_, by simp [intOf]; omega⟩
              first | exact HRR.out | ((repeat apply Exists.intro); refine ⟨HRR.out, ?_⟩; and_intros <;> rfl)
            · have hjx' : ¬ ((jb : Int) = (X.x.job : Int)) := by omega
              have W8 := hid (WS2.out.below B8.out)
              have hl12 : l.length + 1 ≤ 13 := by omega
              go_upto_region 20 with fail
              go_step
              repeat (first
                | (refine wpList_load_blk (o := ⟨some 78, _, _, _, _, _⟩) 36 (.tmp 16) rfl rfl z8 _ 36 rfl K8.out ⟨_, Tryd.underlying36, rfl⟩ size_img ?_)
                | (go_at_call 24; go_must (refine (back_calls w8 x' a8 x'.blobs.length c8).mono ?_; rintro e w9 ⟨rfl, hb9⟩; have B9 := hid hb9; have C9 := hid (cs_lit w9 (⟨x', a8, c8⟩ : WS).V 53 1 5 rfl (by simp [maxLen])); have W9 := hid ((W8.out.below hb9).below (below_alloc w9 (.cells (⟨x', a8, c8⟩ : WS).V.toArray 53))); have B10 := hid (B8.out.trans ((hb9.trans ((below_alloc w9 (.cells (⟨x', a8, c8⟩ : WS).V.toArray 53)).mono hb9.size)).mono B8.out.size)); clear hb9; dsimp only))
                | (refine wpListQ_buildOne (o := ⟨some 80, _, _, _, _, _⟩) rfl 50 53 (.tmp 79) rfl (⟨x', a8, c8⟩ : WS).V.toArray zrefA 5 rfl under_refs info_ref (by decide) rfl ?_)
                | (at_builtin; go_must (refine wpList_append_ro WS.V_length WS.V_one (by decide) (.tmp 77) (.tmp 80) _ rfl rfl w5.heap.size 53 _ 64 info_refs rfl under_refs u13 l W9.out.ro rfl (l' := [⟨x', a8, c8⟩]) rfl (by rw [List.flatMap_cons, List.flatMap_nil, List.append_nil]; exact C9.out) (Nat.le_refl _) rfl (by show (l.length + 1) * 65 ≤ _; omega) (Nat.le_trans N6.out B10.out.size) ?_; intro v11 w11 ho11 hb11 hg11 hw11; have O11 := hid ho11; have G11 := hid hg11; have V11 := hid hw11; have B11 := hid hb11; clear ho11 hb11 hg11 hw11))
                | go_step)
              have W11 := WS2.out.more N6.out B10.out ⟨x', a8, c8⟩ (((BL8.out.below B9.out).below (below_alloc w9 _)).wider fun k hk => ⟨hk.1, Nat.lt_of_lt_of_le hk.2 (Nat.le_trans B9.out.size (below_alloc w9 _).size)⟩) O11.out G11.out V11.out
              have R : ApRel2 w5 I X.x.job v11 (.int .i64 ((k2 : Int) + 1)) w11 := ⟨k2 + 1, _, rfl, hkl2, by rw [List.length_append]; exact Nat.succ_le_succ hll, W11, fun p hp => by
                rcases List.mem_append.1 hp with hp | hp
                · exact GD.out p hp
                · rw [List.mem_singleton] at hp
                  subst hp
                  refine ⟨fun e => hjx (HXJ.out.symm.trans e), ?_, ?_⟩
                  · show findI I.L x'.job = some x'
                    rw [HXJ.out]; exact HR.out
                  · show x'.job < _
                    rw [HXJ.out]; exact HJL.out, (BR.out.trans (B10.out.mono BR.out.size)).trans B11.out⟩
              · have HRR := hid R
                clear R W11
                go_wp2_with fail
                refine ⟨?_, by simp [intOf]; omega⟩
                first | exact HRR.out | ((repeat apply Exists.intro); refine ⟨HRR.out, ?_⟩; and_intros <;> rfl)
        · have hkl2' : ¬ ((k2 : Int) < (I.L.length : Int)) := by omega
          have L6 := hid (L5.out.below BR.out)
          have T6 := hid (T5.out.below BR.out)
          have Z6 := hid (Z5.out.below BR.out)
          have hl12 : (l.length : Int) ≤ 12 := by omega
          have N66 := hid (show n ≤ w5.heap.size from N5.out)
          clear L5 T5 Z5 CJ N5 hkl2
          go_upto_if 83 with fail
          go_cut [] from 84 to 91 (fun w' => LS wg w'.heap.size g c (doI dr I (fewI X.x)).1 w' ∧ Was w5.heap.size w' u13 l)
          case first =>
            cases dr with
            | true =>
              have x0 := Z6.out.get 0 rfl
              have HD := hid (ls_dropc wg wr n g c I X.x.job L6.out HX.out.job (by have := A12.out.steps; omega) (by rw [A12.out.inv.way]; decide))
              go_wp2_with (go_at_call 25; go_must (refine HD.out.mono ?_; rintro e w7 ⟨rfl, h7, S, hS1, hS2⟩; have L7 := hid h7; have W7 := hid (WS2.out.keep hS1 fun k hk => Nat.lt_of_lt_of_le (hS2 k hk) N66.out); clear h7 hS1 hS2; dsimp only))
              go_meet
              exact ⟨L7.out, W7.out⟩
            | false =>
              have HP := hid (ls_putc wg wr n g c I (fewI X.x) a5 n5 c5 L6.out T6.out HX.out.job HX.out.ver HX.out.credit LD.out (by have := A12.out.steps; omega) (by rw [A12.out.inv.way]; decide))
              have HO := hid fun W (hW : Below wr.heap.size wr W) => of_calls W X.x a5 n5 c5 none 0 0
              go_wp2_with (first | (refine wpList_load_blk (o := ⟨some 89, _, _, _, _, _⟩) 53 (.tmp 4) rfl rfl xq _ 53 rfl Z6.out ⟨_, Tryd.underlying53, rfl⟩ size_ref ?_) | (go_at_call 21; go_must (refine (of_calls wr X.x a5 n5 c5 none 0 0).mono ?_; rintro e w6 ⟨rfl, hb6⟩; have B6 := hid hb6; clear hb6; dsimp only)) | (go_at_call 14; go_must (refine (ls_putc wg w6 n g c I (fewI X.x) a5 n5 c5 (L6.out.below B6.out) (T6.out.below B6.out) HX.out.job HX.out.ver HX.out.credit LD.out (by have := A12.out.steps; omega) (by rw [A12.out.inv.way]; decide)).mono ?_; rintro e w7 ⟨rfl, h7, S, hS1, hS2⟩; have L7 := hid h7; have W7 := hid ((WS2.out.below B6.out).keep hS1 fun k hk => Nat.lt_of_lt_of_le (hS2 k hk) N66.out); clear h7 hS1 hS2; dsimp only)))
              go_meet
              exact ⟨L7.out, W7.out⟩
          case rest =>
            obtain ⟨hc1, hc2⟩ := hcut
            have LC := hid hc1
            have WC := hid hc2
            have AD := hid (apart_do A12.out.inv dr (x := fewI X.x) HX.out.job HX.out.ver)
            obtain ⟨I2, hI2⟩ : ∃ I2, (doI dr I (fewI X.x)).1 = I2 := ⟨_, rfl⟩
            rw [hI2] at LC AD
            have LC := hid LC.out
            obtain ⟨J, hJ⟩ : ∃ J : Im, J = ⟨I2.sl, 0, 2, listI (seeG I2.sl 0) 120 120, usedI 120 (listI (seeG I2.sl 0) 120 120), false⟩ := ⟨_, rfl⟩
            have HO := hid (show openI I2.sl 0 120 2 = (some J, 0) from by rw [hJ]; exact open_any (f := 0) (n := 120) AD.out.1 (by rw [AD.out.2.1, A12.out.done]; exact Nat.le_refl _) (by decide))
            have FC := hid (show ∀ p ∈ l, findI I2.L p.x.job = some p.x ∧ findI J.L p.x.job = some p.x ∧ p.x.job < 4294967296 from fun p hp => by
              obtain ⟨g1, g2, g3⟩ := GD.out p hp
              have e1 := AD.out.2.2.1 p.x.job g1
              have e2 := AD.out.2.2.2.1 p.x.job g1
              rw [A12.out.from', A12.out.used] at e2
              rw [hJ]
              exact ⟨e1.trans g2, e2.trans g2, g3⟩)
            have SC := hid (show (∀ y ∈ I2.L, ∀ b ∈ y.blobs, b.length ≤ 100000) ∧ ∀ y ∈ J.L, ∀ b ∈ y.blobs, b.length ≤ 100000 from ⟨AD.out.2.2.2.2, by rw [hJ]; exact small_J _ _ _ _⟩)
            have HDN := hid (show I2.sl.done.length ≤ 4096 from by rw [AD.out.2.1, A12.out.done]; decide)
            have SL := hid (LC.out.slab)
            clear hI2 hJ hc1 hc2 AD L6 T6 Z6 GD WS2 BR A12
            go_upto_region 28 with (go_at_call 13; go_must (refine (ls_open wg wc g I2.sl 0 120 2 J SL.out LD.out (by decide) (by decide) (by decide) HDN.out HO.out).mono ?_; rintro e w6 ⟨dd, rfl, h6, hb6⟩; have D6 := hid h6; have L6 := hid (LC.out.below hb6); have W6 := hid (WC.out.below hb6); clear h6 hb6; dsimp only))
            obtain ⟨a13, n13, c13, rfl, hn13, _, hcs13⟩ := W6.out.ro.cs
            subst hn13
            have C13 := hid hcs13
            clear hcs13
            go_wp2_with fail
            go_loopw [21, 22, 23, 24, 25, 101] (fun _ _ _ _ _ iv wr => ApRel3 w6 l.length iv wr) (fun _ _ _ _ _ iv _ => l.length - (intOf iv).toNat)
            case atStart => exact ⟨0, rfl, Nat.zero_le _, Below.refl _ _⟩
            case round =>
              obtain ⟨k3, rfl, hk3, hb3⟩ := hrel
              have BR := hid hb3
              clear hb3
              by_cases hkl3 : k3 < l.length
              · have hkl3' : (k3 : Int) < (l.length : Int) := by omega
                obtain ⟨bo, off, rfl, hc⟩ := cs_row WS.V_length (C13.out.below BR.out) hkl3 (by decide)
                have WR := W6.out.below BR.out
                have hpm : l[k3] ∈ l := List.getElem_mem hkl3
                have hbp := WR.bl _ hpm
                obtain ⟨f1, f2, f3⟩ := FC.out _ hpm
                have HR := hid (show wr.rangeAt bo (off + k3 * 5) (l[k3]).V from fun j v hv => hc j v hv)
                clear hc hpm WR
                generalize l[k3] = p at hbp f1 f2 f3 HR
                obtain ⟨x9, a9, c9⟩ := p
                have BP := hid (show BL wr _ (.slice a9 x9.blobs.length c9) x9.blobs from hbp)
                have F3 := hid (show x9.job < 4294967296 from f3)
                have HG1 := hid fun W (hW : Below wr.heap.size wr W) => (show Calls Tryd.prog 15 #[.pointer (some ⟨c, 0, none⟩), .int .u32 (x9.job : Int)] W (GetTo W (some x9)) from by
                  have h := ls_get wg W _ g c I2 ((L6.out.below BR.out).below hW) SC.out.1 x9.job F3.out
                  rw [show findI I2.L x9.job = some x9 from f1] at h; exact h)
                have HG2 := hid fun W (hW : Below wr.heap.size wr W) => (show Calls Tryd.prog 15 #[.pointer (some ⟨dd, 0, none⟩), .int .u32 (x9.job : Int)] W (GetTo W (some x9)) from by
                  have h := ls_get wg W _ g dd J ((D6.out.below BR.out).below hW) SC.out.2 x9.job F3.out
                  rw [show findI J.L x9.job = some x9 from f2] at h; exact h)
                have hlen := hid (show x9.blobs.length ≤ 9223372036854775807 from by
                  have h2 := BP.out.len.2
                  obtain ⟨_, _, _, e, h, _⟩ := BP.out
                  cases e
                  have h1 := h.max; unfold maxLen at h1; omega)
                clear hbp f1 f2 f3
                have KQ := hid (show Blk (wr.alloc (.cells (refV x9 (.slice a9 x9.blobs.length c9) (.slice none 0 0)).toArray 53)) wr.heap.size (refV x9 (.slice a9 x9.blobs.length c9) (.slice none 0 0)) 53 from blk_alloc wr _ _)
                have BQ := hid (below_alloc wr (.cells (refV x9 (.slice a9 x9.blobs.length c9) (.slice none 0 0)).toArray 53))
                go_upto_region 31 with (first | (refine wpList_load_rowI (o := ⟨some 104, _, _, _, _, _⟩) 53 (.tmp 103) rfl rfl bo (off + k3 * 5) (refV x9 (.slice a9 x9.blobs.length c9) (.slice none 0 0)) rfl HR.out ⟨_, Tryd.underlying53, rfl⟩ size_ref ?_) | (refine wpListQ_alloc (o := ⟨some 21, _, _, _, _, _⟩) 53 rfl rfl zrefA 5 info_ref ?_) | (refine wpListQ_store_new (o := ⟨none, _, 0, _, _, _⟩) rfl 53 (.tmp 21) (.tmp 104) rfl zrefA (refV x9 (.slice a9 x9.blobs.length c9) (.slice none 0 0)).toArray rfl rfl size_ref rfl (by simp [refV, Value.oneCell']) ?_))
                obtain ⟨z1, hz1⟩ : ∃ z1, wr.heap.size = z1 := ⟨_, rfl⟩
                rw [show wr.heap.size = z1 from hz1] at KQ ⊢
                clear hz1
                generalize (wr.alloc (.cells (refV x9 (.slice a9 x9.blobs.length c9) (.slice none 0 0)).toArray 53)) = wq at KQ BQ ⊢
                have q0 := KQ.out.get 0 rfl
                go_upto_region 32 with (first | (go_at_call 15; go_must (refine (HG1.out _ BQ.out).mono ?_; rintro e w7 ⟨hb7, ts7, bv7, rfl, hts7, htx7⟩; have B7 := hid hb7; have TX7 := hid htx7; have TS7 := hid hts7; obtain ⟨a8, n8, c8, rfl, _, _, _⟩ := htx7.rb.cs; clear hb7 hts7 htx7; dsimp only)) | (refine wpListQ_alloc (o := ⟨some 22, _, _, _, _, _⟩) 36 rfl rfl zimgA 4 info_img ?_) | (refine wpListQ_store_new (o := ⟨none, _, 0, _, _, _⟩) rfl 36 (.tmp 22) (.tmp 110) rfl zimgA (imgV x9 (.slice a8 n8 c8)).toArray rfl rfl size_img rfl (by simp [imgV, Value.oneCell']) ?_))
                have hb8 := below_alloc w7 (.cells (imgV x9 (.slice a8 n8 c8)).toArray 36)
                have B8 := hid ((BQ.out.trans (B7.out.mono BQ.out.size)).trans (hb8.mono (Nat.le_trans BQ.out.size B7.out.size)))
                have K8 := hid (blk_alloc w7 (imgV x9 (.slice a8 n8 c8)) 36)
                have hbl := TX7.out.bl
                rw [TS7.out] at hbl
                obtain rfl : n8 = x9.blobs.length := hbl.len.1
                have BL8 := hid ((hbl.below hb8).wider (Q' := Anyw) fun _ _ => trivial)
                have KQ8 := hid ((KQ.out.below B7.out).below hb8)
                clear hbl TX7 TS7 q0 HG1
                obtain ⟨z2, hz2⟩ : ∃ z2, w7.heap.size = z2 := ⟨_, rfl⟩
                rw [hz2] at K8 ⊢
                clear hb8 hz2 B7 BQ KQ
                generalize (w7.alloc (.cells (imgV x9 (.slice a8 x9.blobs.length c8)).toArray 36)) = w8 at B8 K8 BL8 KQ8 ⊢
                have q0 := KQ8.out.get 0 rfl
                go_upto_region 33 with (first | (go_at_call 15; go_must (refine (HG2.out _ B8.out).mono ?_; rintro e w9 ⟨hb9, ts9, bv9, rfl, hts9, htx9⟩; have B9 := hid hb9; have TX9 := hid htx9; have TS9 := hid hts9; obtain ⟨a7, n7, c7, rfl, _, _, _⟩ := htx9.rb.cs; clear hb9 hts9 htx9; dsimp only)) | (refine wpListQ_alloc (o := ⟨some 24, _, _, _, _, _⟩) 36 rfl rfl zimgA 4 info_img ?_) | (refine wpListQ_store_new (o := ⟨none, _, 0, _, _, _⟩) rfl 36 (.tmp 24) (.tmp 117) rfl zimgA (imgV x9 (.slice a7 n7 c7)).toArray rfl rfl size_img rfl (by simp [imgV, Value.oneCell']) ?_))
                have hb10 := below_alloc w9 (.cells (imgV x9 (.slice a7 n7 c7)).toArray 36)
                have hb9 := B9.out.trans (hb10.mono B9.out.size)
                have B10 := hid (B8.out.trans (hb9.mono B8.out.size))
                have K10 := hid (blk_alloc w9 (imgV x9 (.slice a7 n7 c7)) 36)
                have hbl := TX9.out.bl
                rw [TS9.out] at hbl
                obtain rfl : n7 = x9.blobs.length := hbl.len.1
                have BL10 := hid ((hbl.below hb10).wider (Q' := Anyw) fun _ _ => trivial)
                have BL8 := hid (BL8.out.below hb9)
                have K8 := hid (K8.out.below hb9)
                have KQ := hid (KQ8.out.below hb9)
                have BP := hid (BP.out.below B10.out)
                clear hbl TX9 TS9 q0 HG2 HR
                obtain ⟨z3, hz3⟩ : ∃ z3, w9.heap.size = z3 := ⟨_, rfl⟩
                rw [hz3] at K10 ⊢
                clear hb9 hb10 hz3 B8 B9 KQ8
                generalize (w9.alloc (.cells (imgV x9 (.slice a7 x9.blobs.length c7)).toArray 36)) = w10 at B10 K10 BL10 BL8 K8 KQ BP ⊢
                have MKS := hid fun (W : World) (hW : Below w10.heap.size w10 W) => (show ((∀ i : Nat, W.cell? ⟨z2, i, none⟩ = ([.int .u32 (x9.job : Int), .int .u32 (x9.ver : Int), .int .i64 x9.credit, .slice a8 x9.blobs.length c8] : List Value)[i]?) ∧ (∀ i : Nat, W.cell? ⟨z3, i, none⟩ = ([.int .u32 (x9.job : Int), .int .u32 (x9.ver : Int), .int .i64 x9.credit, .slice a7 x9.blobs.length c7] : List Value)[i]?) ∧ (∀ i : Nat, W.cell? ⟨z1, i, none⟩ = ([.int .u32 (x9.job : Int), .int .u32 (x9.ver : Int), .int .i64 x9.credit, .slice a9 x9.blobs.length c9, .slice none 0 0] : List Value)[i]?) ∧ Below w10.heap.size w10 W) from ⟨fun i => (K8.out.below hW).cell i, fun i => (K10.out.below hW).cell i, fun i => (KQ.out.below hW).cell i, hW⟩)
                have SB := hid fun (W : World) (h : ((∀ i : Nat, W.cell? ⟨z2, i, none⟩ = ([.int .u32 (x9.job : Int), .int .u32 (x9.ver : Int), .int .i64 x9.credit, .slice a8 x9.blobs.length c8] : List Value)[i]?) ∧ (∀ i : Nat, W.cell? ⟨z3, i, none⟩ = ([.int .u32 (x9.job : Int), .int .u32 (x9.ver : Int), .int .i64 x9.credit, .slice a7 x9.blobs.length c7] : List Value)[i]?) ∧ (∀ i : Nat, W.cell? ⟨z1, i, none⟩ = ([.int .u32 (x9.job : Int), .int .u32 (x9.ver : Int), .int .i64 x9.credit, .slice a9 x9.blobs.length c9, .slice none 0 0] : List Value)[i]?) ∧ Below w10.heap.size w10 W)) => h.2.2.2
                have CB1 := hid fun (W : World) => (show Calls Tryd.prog 24 #[.agg ([.int .u32 (x9.job : Int), .int .u32 (x9.ver : Int), .int .i64 x9.credit, .slice a8 x9.blobs.length c8] : List Value).toArray] W (fun e w' => e = .returned (.agg ([.int .u32 (x9.job : Int), .int .u32 (x9.ver : Int), .int .i64 x9.credit, .slice a8 x9.blobs.length c8, .slice none 0 0] : List Value).toArray) ∧ Below W.heap.size W w') from back_calls W x9 a8 x9.blobs.length c8)
                have CB2 := hid fun (W : World) => (show Calls Tryd.prog 24 #[.agg ([.int .u32 (x9.job : Int), .int .u32 (x9.ver : Int), .int .i64 x9.credit, .slice a7 x9.blobs.length c7] : List Value).toArray] W (fun e w' => e = .returned (.agg ([.int .u32 (x9.job : Int), .int .u32 (x9.ver : Int), .int .i64 x9.credit, .slice a7 x9.blobs.length c7, .slice none 0 0] : List Value).toArray) ∧ Below W.heap.size W w') from back_calls W x9 a7 x9.blobs.length c7)
                have CS1 := hid fun (W : World) (hW : Below w10.heap.size w10 W) => (show Calls Tryd.prog 26 #[.agg ([.int .u32 (x9.job : Int), .int .u32 (x9.ver : Int), .int .i64 x9.credit, .slice a8 x9.blobs.length c8, .slice none 0 0] : List Value).toArray, .agg ([.int .u32 (x9.job : Int), .int .u32 (x9.ver : Int), .int .i64 x9.credit, .slice a9 x9.blobs.length c9, .slice none 0 0] : List Value).toArray] W (fun e w' => e = .returned (.bool true) ∧ Below W.heap.size W w') from isame_calls W _ _ x9 a8 _ c8 none 0 0 a9 _ c9 none 0 0 (BL8.out.below hW) (BP.out.below hW) hlen.out)
                have CS2 := hid fun (W : World) (hW : Below w10.heap.size w10 W) => (show Calls Tryd.prog 26 #[.agg ([.int .u32 (x9.job : Int), .int .u32 (x9.ver : Int), .int .i64 x9.credit, .slice a7 x9.blobs.length c7, .slice none 0 0] : List Value).toArray, .agg ([.int .u32 (x9.job : Int), .int .u32 (x9.ver : Int), .int .i64 x9.credit, .slice a9 x9.blobs.length c9, .slice none 0 0] : List Value).toArray] W (fun e w' => e = .returned (.bool true) ∧ Below W.heap.size W w') from isame_calls W _ _ x9 a7 _ c7 none 0 0 a9 _ c9 none 0 0 (BL10.out.below hW) (BP.out.below hW) hlen.out)
                unfold imgV at K8 K10
                unfold refV at KQ
                clear K8 K10 KQ BL8 BL10 BP
                go_region_held_law (fun W => ((∀ i : Nat, W.cell? ⟨z2, i, none⟩ = ([.int .u32 (x9.job : Int), .int .u32 (x9.ver : Int), .int .i64 x9.credit, .slice a8 x9.blobs.length c8] : List Value)[i]?) ∧ (∀ i : Nat, W.cell? ⟨z3, i, none⟩ = ([.int .u32 (x9.job : Int), .int .u32 (x9.ver : Int), .int .i64 x9.credit, .slice a7 x9.blobs.length c7] : List Value)[i]?) ∧ (∀ i : Nat, W.cell? ⟨z1, i, none⟩ = ([.int .u32 (x9.job : Int), .int .u32 (x9.ver : Int), .int .i64 x9.credit, .slice a9 x9.blobs.length c9, .slice none 0 0] : List Value)[i]?) ∧ Below w10.heap.size w10 W))
                  ((refine MKS.out _ ?_; first | with_reducible exact below_drew _ | with_reducible exact Ld.out | with_reducible exact Lc.out | with_reducible exact Lb.out | with_reducible exact La.out | with_reducible exact Below.refl _ _))
                  (first
                    | (go_at_call 26; have hx := Lc.out; clear hx; refine (CS2.out _ (SB.out _ (by assumption))).mono ?_; rintro e wd ⟨rfl, hb⟩; have Ld := hid ((SB.out _ (by assumption)).trans (hb.mono (SB.out _ (by assumption)).size)); clear hb)
                    | (go_at_call 26; refine (CS1.out _ (SB.out _ (by assumption))).mono ?_; rintro e wb ⟨rfl, hb⟩; have Lb := hid ((SB.out _ (by assumption)).trans (hb.mono (SB.out _ (by assumption)).size)); clear hb)
                    | (go_at_call 24; have hx := Lb.out; clear hx; refine (CB2.out _).mono ?_; rintro e wcc ⟨rfl, hb⟩; have Lc := hid ((SB.out _ (by assumption)).trans (hb.mono (SB.out _ (by assumption)).size)); clear hb)
                    | (go_at_call 24; refine (CB1.out _).mono ?_; rintro e waa ⟨rfl, hb⟩; have La := hid ((SB.out _ (by assumption)).trans (hb.mono (SB.out _ (by assumption)).size)); clear hb))
                all_goals
                  have R : ApRel3 w6 l.length (.int .i64 ((k3 : Int) + 1)) wd := ⟨k3 + 1, rfl, hkl3, BR.out.trans ((B10.out.trans (Ld.out.mono B10.out.size)).mono BR.out.size)⟩
                  have HRR := hid R
                  clear R
                  go_wp2_with fail
                  refine ⟨?_, by simp [intOf]; omega⟩
                  first | exact HRR.out | ((repeat apply Exists.intro); refine ⟨HRR.out, ?_⟩; and_intros <;> rfl)
              · have hkl3' : ¬ ((k3 : Int) < (l.length : Int)) := by omega
                go_wp2_with fail
                go_ret
                exact ⟨rfl, BG.out.trans ((L6.out.below BR.out).1.mono BG.out.size)⟩
end Go.Proofs.YtoapibbbooongaaDoor
