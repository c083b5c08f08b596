/- The document's opening of layer 8. -/
import Derived.Test.YtoapibbbooongaaDoorImgRs
import Derived.RegionTactic
import Derived.BigRegion
import Derived.BigQuiet
namespace Go.Proofs.YtoapibbbooongaaDoor
open Go.RowKit Go.Quad _root_.Quad _root_.Quad.Slab

/-- what the document's opening leaves -/
def ROpenI (w : World) (g : Nat) (r : Option Im × Nat) (e : Ending) (w' : World) : Prop := Below w.heap.size w w' ∧ match r.1 with
  | none => e = .returned (.tuple #[.pointer none, .int .i64 (r.2 : Int)])
  | some I => ∃ c d lv L, e = .returned (.tuple #[.pointer (some ⟨c, 0, none⟩), .int .i64 (r.2 : Int)]) ∧ XSto w' (NewIn w.heap.size w') w.heap.size g c d lv L I
theorem ropen_no {w w' : World} {g n : Nat} {r : Option Im × Nat} (h : r = (none, n)) (hb : Below w.heap.size w w') : ROpenI w g r (.returned (.tuple #[.pointer none, .int .i64 (n : Int)])) w' := by subst h; exact ⟨hb, rfl⟩
/-- so far, behind k places -/
def RoRel (w : World) (g : Nat) (s : Sl) (f n ep c d : Nat) (iv : Value) (wr : World) : Prop :=
  ∃ (k : Nat) (lv : Value) (L : List RI), iv = .int .i64 (k : Int) ∧ k ≤ n ∧ XSto wr (NewIn w.heap.size wr) w.heap.size g c d lv L ⟨s, f, ep, listI (seeG s f) n k, List.replicate n false, false⟩ ∧ Below w.heap.size w wr
/-- so far, the places of k images are marked -/
def RmRel (w : World) (g : Nat) (s : Sl) (f n ep c d : Nat) (lv : Value) (L : List RI) (iv : Value) (wr : World) : Prop :=
  ∃ k : Nat, iv = .int .i64 (k : Int) ∧ k ≤ L.length ∧ XSto wr (NewIn w.heap.size wr) w.heap.size g c d lv L ⟨s, f, ep, listI (seeG s f) n n, markI (List.replicate n false) ((L.take k).flatMap fun r => r.x.at'), false⟩ ∧ Below w.heap.size w wr
def RmjRel (w : World) (g : Nat) (s : Sl) (f n ep c d : Nat) (lv : Value) (L : List RI) (m : List Bool) (l : List Nat) (jv : Value) (wr : World) : Prop :=
  ∃ j : Nat, jv = .int .i64 (j : Int) ∧ j ≤ l.length ∧ XSto wr (NewIn w.heap.size wr) w.heap.size g c d lv L ⟨s, f, ep, listI (seeG s f) n n, markI m (l.take j), false⟩ ∧ Below w.heap.size w wr
/-- one more place is looked at -/
theorem ro_next {s : Sl} {f n k : Nat} {L : List RI} {r : RI} {i : Int} (hL : L.map RI.x = listI (seeG s f) n k) (h : thereI (seeG s f) n k = some r.x) (hi : FindIs L r.x.job i) :
    (i < 0 ∧ listI (seeG s f) n (k + 1) = setK Img.job r.x (listI (seeG s f) n k)) ∨ ∃ j, ∃ hj : j < L.length, i = (j : Int) ∧ ((L[j].x.ver < r.x.ver ∧ listI (seeG s f) n (k + 1) = setK Img.job r.x (listI (seeG s f) n k)) ∨ (¬ L[j].x.ver < r.x.ver ∧ listI (seeG s f) n (k + 1) = listI (seeG s f) n k)) := by
  have hs := (lists (seeG s f) n k).sorted
  rw [listI_succ, h]
  rcases hi with ⟨j, hj, rfl, e⟩ | ⟨hno, rfl⟩
  · refine .inr ⟨j, hj, rfl, ?_⟩
    have hm : L[j].x ∈ listI (seeG s f) n k := by rw [← hL]; exact List.mem_map.2 ⟨_, List.getElem_mem hj, rfl⟩
    have hf := find_key hs hm
    rw [e] at hf
    by_cases hv : L[j].x.ver < r.x.ver
    · exact .inl ⟨hv, addI_newer hf hv⟩
    · exact .inr ⟨hv, addI_older hf hv⟩
  · refine .inl ⟨by omega, addI_none ?_⟩
    unfold findI
    rw [List.find?_eq_none]
    intro x hx
    rw [← hL] at hx
    obtain ⟨r', hr', rfl⟩ := List.mem_map.1 hx
    simpa using hno r' hr'
theorem ro_skip {s : Sl} {f n k : Nat} (h : thereI (seeG s f) n k = none) : listI (seeG s f) n (k + 1) = listI (seeG s f) n k := by rw [listI_succ, h]; rfl
theorem setR_map {L : List RI} {l : List Img} (x : RI) (hL : L.map RI.x = l) (h : l.Pairwise (fun a b => a.job < b.job)) : (setK keyR x L).map RI.x = setK Img.job x.x l ∧ ∀ r, r ∈ setK keyR x L → r = x ∨ r ∈ L := by
  subst hL
  have hp : L.Pairwise (fun a b => keyR a < keyR b) := by rw [List.pairwise_map] at h; exact h
  exact ⟨setK_map RI.x keyR Img.job (fun _ => rfl) x hp, fun r hr => by rcases (setK_mem keyR x hp r).1 hr with h | h; exact .inl h; exact .inr h.1⟩
set_option maxRecDepth 100000 in
set_option maxHeartbeats 20000000 in
theorem ropenI_calls (w : World) (Fp : Nat → Prop) (B g dn dc : Nat) (wv : Value) (s : Sl) (a b : Int) (ep : Nat) (h : IsRf w Fp B g dn dc wv s) (ha : -9223372036854775808 ≤ a ∧ a ≤ 9223372036854775807) (hb : -9223372036854775808 ≤ b ∧ b ≤ 9223372036854775807) (_he : ep < 4294967296) (hsm : s.done.length ≤ 4096) :
    Calls Tryd.prog 19 #[.pointer (some ⟨g, 0, none⟩), .int .i64 a, .int .i64 b, .int .u32 (ep : Int)] w (ROpenI w g (openI s a b ep)) := by
  have H := hid h
  have c0 := h.own.get 0 rfl
  have c2 := h.own.get 2 rfl
  have hsm' : ((s.done.length : Nat) : Int) ≤ 4096 := by omega
  obtain ⟨R0, hR0⟩ : ∃ R0, openI s a b ep = R0 := ⟨_, rfl⟩
  rw [hR0]
  have HR0 := hid hR0
  obtain ⟨N, hN⟩ : ∃ N, s.done.length = N := ⟨_, rfl⟩
  rw [hN] at c0 hsm'
  have HN := hid hN
  clear h hR0 hN
  by_cases h1 : a < 0
  · go_enter Tryd.func19, Tryd.ntmps19
    go_wp2_with fail
    go_ret2
    exact ropen_no (n := 1) (by rw [← HR0.out]; unfold openI; rw [if_pos (.inl h1)]) (Below.refl _ _)
  by_cases h2 : b ≤ a
  · go_enter Tryd.func19, Tryd.ntmps19
    go_wp2_with fail
    go_ret2
    exact ropen_no (n := 1) (by rw [← HR0.out]; unfold openI; rw [if_pos (.inr (.inl h2))]) (Below.refl _ _)
  by_cases h3 : (N : Int) < b
  · go_enter Tryd.func19, Tryd.ntmps19
    go_wp2_with fail
    go_ret2
    exact ropen_no (n := 1) (by rw [← HR0.out]; unfold openI; rw [if_pos (.inr (.inr (by rw [HN.out]; exact h3)))]) (Below.refl _ _)
  cases hoff : s.off with
  | true =>
    rw [hoff] at c2
    have HOFF := hid hoff
    clear hoff
    go_enter Tryd.func19, Tryd.ntmps19
    go_wp2_with fail
    go_ret2
    exact ropen_no (n := 13) (by rw [← HR0.out]; unfold openI; rw [if_neg (by rw [HN.out]; omega), if_pos HOFF.out]) (Below.refl _ _)
  | false =>
    rw [hoff] at c2
    have HR1 := hid (show openI s a b ep = _ from by unfold openI; rw [if_neg (by rw [HN.out]; omega), if_neg (by simp [hoff])])
    obtain ⟨f, rfl⟩ : ∃ f : Nat, a = (f : Int) := ⟨a.toNat, by omega⟩
    obtain ⟨n, rfl⟩ : ∃ n : Nat, b = ((f + n : Nat) : Int) := ⟨(b - f).toNat, by omega⟩
    have hn1 : 0 < n := by omega
    have hfn' : (f : Int) + (n : Int) ≤ 4096 := by omega
    have HOFF := hid hoff
    clear hoff h1 h2
    obtain ⟨i0, hi, hz0, hz1, hz2⟩ := info_parts info_boolM
    have Hi := hid hi; have Hz0 := hid hz0; have Hz1 := hid hz1; have Hz2 := hid hz2
    clear hi hz0 hz1 hz2
    have e56 : (f : Int) + (n : Int) - (f : Int) = (n : Int) := by omega
    go_enter Tryd.func19, Tryd.ntmps19
    go_upto_region 7 with fail
    go_cut [10] from 41 to 49 (fun v10 w' => ∃ c, v10 = .pointer (some ⟨c, 0, none⟩) ∧ XSto w' (NewIn w.heap.size w') w.heap.size g c w.heap.size (.slice none 0 0) [] ⟨s, f, ep, [], List.replicate n false, false⟩ ∧ Below w.heap.size w w')
    case first =>
      go_wp2_with (at_make; go_must (refine wpList_make_full _ rfl (.tmp 46) (.tmp 46) _ rfl w.heap.size 4 i0 (.bool false) 1 under_boolsM Hi.out Hz0.out Hz1.out .i64 .i64 _ _ n rfl rfl (by omega) (by omega) (by rw [Hz2.out]; omega) (by unfold maxLen; omega) (Nat.le_refl _) ?_; intro w1 hown hgr; have O1 := hid hown; have G1 := hid hgr; clear hown hgr))
      have hB1 : Blk w1 w.heap.size (List.replicate n (Value.bool false)) 4 := blk_of_owned (row_made _ (z := .bool false) rfl O1.out)
      have hb1 : Below w.heap.size w w1 := grownBy_below G1.out (Nat.le_refl _) (by simp)
      have hb2 := below_alloc w1 (.cells #[.pointer (some ⟨g, 0, none⟩), .int .i64 (f : Int), .int .u32 (ep : Int), .slice none 0 0, .slice (some ⟨w.heap.size, 0, none⟩) n n, .bool false] 122)
      have hk2 := blk_alloc w1 [.pointer (some ⟨g, 0, none⟩), .int .i64 (f : Int), .int .u32 (ep : Int), .slice none 0 0, .slice (some ⟨w.heap.size, 0, none⟩) n n, .bool false] 122
      have hd := hB1.lt
      have R : ∃ c, Value.pointer (some ⟨w1.heap.size, 0, none⟩) = .pointer (some ⟨c, 0, none⟩) ∧ XSto (w1.alloc (.cells #[.pointer (some ⟨g, 0, none⟩), .int .i64 (f : Int), .int .u32 (ep : Int), .slice none 0 0, .slice (some ⟨w.heap.size, 0, none⟩) n n, .bool false] 122)) (NewIn w.heap.size (w1.alloc (.cells #[.pointer (some ⟨g, 0, none⟩), .int .i64 (f : Int), .int .u32 (ep : Int), .slice none 0 0, .slice (some ⟨w.heap.size, 0, none⟩) n n, .bool false] 122))) w.heap.size g c w.heap.size (.slice none 0 0) [] ⟨s, f, ep, [], List.replicate n false, false⟩ ∧ Below w.heap.size w (w1.alloc (.cells #[.pointer (some ⟨g, 0, none⟩), .int .i64 (f : Int), .int .u32 (ep : Int), .slice none 0 0, .slice (some ⟨w.heap.size, 0, none⟩) n n, .bool false] 122)) := by
        refine ⟨w1.heap.size, rfl, ⟨by simpa using hk2, by rw [List.map_replicate]; exact hB1.below hb2, RO.nil _ _ _ _ _, by simp, rfl, List.Pairwise.nil, by simp, by omega, ⟨⟨hb1.size, hk2.lt⟩, ⟨Nat.le_refl _, Nat.lt_of_lt_of_le hd hb2.size⟩, by simp [Value.ownBlock]⟩, fun k hk => hk, by simp; omega⟩, hb1.trans (hb2.mono hb1.size)⟩
      have HR := hid R
      clear R hb1 hb2 hk2 hB1 hd
      go_meet
      exact HR.out
    obtain ⟨c, rfl, hX, hB⟩ := hcut
    obtain ⟨w3, rfl⟩ : ∃ w3 : World, w3 = wc := ⟨_, rfl⟩
    have X0 := hid hX
    have B0 := hid hB
    have hcg : w.heap.size ≤ c := (hX.lt c hX.inQ.1).1
    have R0' := hid (show RoRel w g s f n ep c w.heap.size (.int .i64 0) w3 from ⟨0, _, [], rfl, Nat.zero_le _, hX, hB⟩)
    clear hX hB Hi Hz0 Hz1 Hz2 c0 c2
    go_wp2_with fail
    go_loopw [11, 12, 13, 14, 53] (fun _ _ _ _ iv wr => RoRel w g s f n ep c w.heap.size iv wr) (fun _ _ _ _ iv _ => n - (intOf iv).toNat)
    case atStart => exact R0'.out
    case round =>
      clear R0'
      obtain ⟨k, lv, L, rfl, hk, hX, hB⟩ := hrel
      have XK := hid hX
      have BK := hid hB
      clear hX hB
      by_cases hlt : k < n
      · have hlt' : (k : Int) < (n : Int) := by omega
        obtain ⟨o, ho⟩ : ∃ o, thereI (seeG s f) n k = o := ⟨_, rfl⟩
        have HO := hid ho
        have hoj : ∀ x, o = some x → x.In n := fun x hx => there_in (ho.trans hx) hlt (igetB_ok s _)
        have HOJ := hid hoj
        have CT := hid fun (i : Int) (hi : i = (n : Int)) => (show Calls Tryd.prog 59 #[.pointer (some ⟨g, 0, none⟩), .int .i64 (f : Int), .int .i64 i, .int .i64 (k : Int)] wr (ThereTo wr o) from by subst hi; rw [← HO.out]; exact rthere_calls wr Fp B g dn dc wv s f n k (H.out.below BK.out) (by omega) (by omega) hlt)
        clear ho hoj
        go_upto_region 12 with (go_at_call 59; go_must (refine (CT.out _ (by omega)).mono ?_; rintro e w4 ht; obtain ⟨r, ok, rfl, hor, hat, hrj, hb4⟩ := there_any ht (fun x hx => (HOJ.out x hx).job); have HOR := hid hor; have HAT := hid hat; have HRJ := hid hrj; have B4 := hid hb4; clear ht hor hat hrj hb4; unfold riV; dsimp only))
        obtain ⟨q5, hq5⟩ : ∃ q5, w4.heap.size = q5 := ⟨_, rfl⟩
        have b5 := below_alloc w4 (.cells #[.int .u32 (r.x.job : Int), .int .u32 (r.x.ver : Int), .int .i64 r.x.credit, .slice r.ba r.x.blobs.length r.bc, .slice r.aa r.x.at'.length r.ac] 53)
        have k5 := blk_alloc w4 [.int .u32 (r.x.job : Int), .int .u32 (r.x.ver : Int), .int .i64 r.x.credit, .slice r.ba r.x.blobs.length r.bc, .slice r.aa r.x.at'.length r.ac] 53
        rw [hq5] at k5 ⊢
        have B5 := hid (B4.out.trans (b5.mono B4.out.size))
        have AT5 := hid (fun h => (HAT.out h).keep (Chg.of_below [] b5) (by simp) (fun k hk => (⟨hk.1, Nat.lt_of_lt_of_le hk.2 b5.size⟩ : NewIn wr.heap.size _ k)))
        have K5 := hid k5
        have HCG := hid hcg
        clear b5 k5 hq5 CT hcg
        generalize (w4.alloc (.cells #[.int .u32 (r.x.job : Int), .int .u32 (r.x.ver : Int), .int .i64 r.x.credit, .slice r.ba r.x.blobs.length r.bc, .slice r.aa r.x.at'.length r.ac] 53)) = w5 at B5 AT5 K5 ⊢
        have X5 := hid (XK.out.new B5.out (Nat.le_refl _))
        have BB5 := hid (BK.out.trans (B5.out.mono BK.out.size))
        obtain ⟨la, ln, lc, rfl, hln, hlc, _⟩ := XK.out.row.cs
        have HLN := hid hln
        have HLC := hid hlc
        have HLE := hid (show ln ≤ 100000 from by have h1 := XK.out.len; have h2 := listI_len (seeG s f) n k; dsimp only at h1; omega)
        have HCS := hid fun {W : World} (h : RO riV 5 W w.heap.size 53 (.slice la ln lc) L) => (show CS W la lc 5 (L.flatMap riV) from by obtain ⟨a, n, c, e, _, _, h3⟩ := h.cs; cases e; exact h3)
        clear hln hlc
        have CF := hid fun (W : World) (hW : Below w5.heap.size w5 W) => (show Calls Tryd.prog 60 #[.slice la ln lc, .int .u32 (r.x.job : Int)] W (FindTo W L r.x.job) from rfind_calls W la ln lc L (HCS.out (X5.out.below hW).row) HLN.out HLC.out _ HRJ.out (fun r' hr' => (XK.out.jobs r' hr').job))
        have e3 := X5.out.own.get 3 rfl
        have e0 := K5.out.get 0 rfl
        go_cut [14] from 66 to 72 (fun v14 w' => ∃ iv : Int, v14 = .int .i64 iv ∧ FindIs L r.x.job iv ∧ Below w5.heap.size w5 w')
        case first =>
          as_aux_lemma =>
            go_region_with (go_at_call 60; refine (CF.out _ (below_drewN (Below.refl _ _) _)).mono ?_; rintro e w6 hf; obtain ⟨iv, rfl, hfi, hb6⟩ := hf.is; have FI := hid hfi; have B6 := hid ((below_drewN (Below.refl w5.heap.size w5) _).trans (hb6.mono (below_drewN (Below.refl w5.heap.size w5) _).size)); clear hfi hb6 hf)
            all_goals
              have R := hid (show ∃ iv' : Int, Value.int .i64 iv = .int .i64 iv' ∧ FindIs L r.x.job iv' ∧ Below w5.heap.size w5 w6 from ⟨iv, rfl, FI.out, B6.out⟩)
              go_wp2_with fail
              go_meet
              exact R.out
        case rest =>
          obtain ⟨iv, rfl, hfi, hb6⟩ := hcut
          obtain ⟨w6, rfl⟩ : ∃ w6 : World, w6 = wc := ⟨_, rfl⟩
          have FI := hid hfi
          have X6 := hid (X5.out.new hb6 (Nat.le_refl _))
          have BB6 := hid (BB5.out.trans (hb6.mono BB5.out.size))
          have AT6 := hid (fun h => (AT5.out h).keep (Chg.of_below [] hb6) (by simp) (fun k hk => (⟨hk.1, Nat.lt_of_lt_of_le hk.2 hb6.size⟩ : NewIn wr.heap.size w6 k)))
          have K6 := hid (K5.out.below hb6)
          clear hfi hb6 e3 e0
          have e3 := X6.out.own.get 3 rfl
          have e1 := K6.out.get 1 rfl
          cases ok with
          | false =>
            have HLI := hid (ro_skip (HO.out.trans HOR.out))
            go_upto_region 13 with fail
            go_quiet (fail)
            have bq := below_drewN (Below.refl w6.heap.size w6) nq
            have X7 := hid (X6.out.new bq (Nat.le_refl _))
            have BB7 := hid (BB6.out.trans (bq.mono BB6.out.size))
            have AT7 := hid (fun h => (AT6.out h).keep (Chg.of_below [] bq) (by simp) (fun k hk => (⟨hk.1, Nat.lt_of_lt_of_le hk.2 bq.size⟩ : NewIn wr.heap.size (w6.drewN nq) k)))
            have K7 := hid (K6.out.below bq)
            clear bq e3 e1
            generalize w6.drewN nq = w7 at X7 BB7 AT7 K7 ⊢
            have R : RoRel w g s f n ep c w.heap.size (.int .i64 ((k : Int) + 1)) w7 := ⟨k + 1, _, L, rfl, hlt, by rw [HLI.out]; exact X7.out, BB7.out⟩
            have HR := hid R
            clear R
            go_wp2_with fail
            refine ⟨?_, by simp only [intOf]; omega⟩
            first | exact HR.out | ((repeat apply Exists.intro); refine ⟨HR.out, ?_⟩; and_intros <;> rfl)
          | true =>
            have HOK := hid (show true = true from rfl)
            rcases ro_next XK.out.L (HO.out.trans HOR.out) FI.out with ⟨hi0, hli⟩ | ⟨j, hj, rfl, hli⟩
            · have HLI := hid hli
              clear hli
              go_upto_region 13 with fail
              go_quiet (fail)
              have bq := below_drewN (Below.refl w6.heap.size w6) nq
              have X7 := hid (X6.out.new bq (Nat.le_refl _))
              have BB7 := hid (BB6.out.trans (bq.mono BB6.out.size))
              have AT7 := hid (fun h => (AT6.out h).keep (Chg.of_below [] bq) (by simp) (fun k hk => (⟨hk.1, Nat.lt_of_lt_of_le hk.2 bq.size⟩ : NewIn wr.heap.size (w6.drewN nq) k)))
              have K7 := hid (K6.out.below bq)
              clear bq e3 e1
              generalize w6.drewN nq = w7 at X7 BB7 AT7 K7 ⊢
              have CS7 := hid fun (W : World) (hW : Below w7.heap.size w7 W) => (show Calls Tryd.prog 61 #[.slice la ln lc, .agg (riV r).toArray] W (SetTo W L r) from rset_calls W la ln lc L r ((HCS.out (X7.out.below hW).row)) HLN.out HLC.out HLE.out (fun r' hr' => (XK.out.jobs r' hr').job) HRJ.out)
              have z3 := X7.out.own.get 3 rfl
              have z30 := K7.out.get 0 rfl
              have z31 := K7.out.get 1 rfl
              have z32 := K7.out.get 2 rfl
              have z33 := K7.out.get 3 rfl
              have z34 := K7.out.get 4 rfl
              go_upto_region 14 with fail
              go_region_with (go_at_call 61; refine (CS7.out _ (below_drewN (Below.refl _ _) _)).mono ?_; rintro e w8 ⟨bv, rfl, hro8, hb8⟩; obtain ⟨ba8, bn8, bc8, rfl, _, _, _⟩ := hro8.cs; have RO8 := hid hro8; have B8 := hid ((below_drewN (Below.refl w7.heap.size w7) _).trans (hb8.mono (below_drewN (Below.refl w7.heap.size w7) _).size)); have c83 := (X7.out.own.below B8.out).get 3 rfl; have f83 := (X7.out.own.below B8.out).free 3; clear hro8 hb8)
              all_goals
                have R := hid (show ∃ lv' L', XSto (w8.setCell ⟨c, 3, none⟩ (.slice ba8 bn8 bc8)) (NewIn w.heap.size (w8.setCell ⟨c, 3, none⟩ (.slice ba8 bn8 bc8))) w.heap.size g c w.heap.size lv' L' ⟨s, f, ep, listI (seeG s f) n (k + 1), List.replicate n false, false⟩ ∧ Below w.heap.size w (w8.setCell ⟨c, 3, none⟩ (.slice ba8 bn8 bc8)) from by
                  have hz7 := BB7.out.size
                  have hm := setR_map r XK.out.L XK.out.sorted
                  refine ⟨_, setK keyR r L, (XSto.list (Q' := NewIn w.heap.size w8) (l := listI (seeG s f) n (k + 1)) X7.out B8.out (RO8.out.base' (by first | exact Nat.le_trans hz7 (below_drewN (Below.refl w7.heap.size w7) _).size | simpa using hz7)) (fun x hx => by have := (RO8.out.ownBlock x hx).1; simpa using this) (fun r' hr' => ?_) (by rw [hm.1, HLI.out]) (lists _ _ _).sorted (fun x hx => ?_) (fun k hk => ⟨hk.1, Nat.lt_of_lt_of_le hk.2 B8.out.size⟩) (fun k h1 h2 => ⟨by omega, h2⟩) (fun k hk => hk)).toNew (Nat.le_refl _) (fun k hk => hk.1), (BB7.out.trans (B8.out.mono BB7.out.size)).trans ((chg_setCell _ _ _ _).below (BB7.out.trans (B8.out.mono BB7.out.size)).size (fun x hx => by rw [List.mem_singleton] at hx; subst hx; exact HCG.out))⟩
                  · rcases hm.2 r' hr' with rfl | h
                    · refine ((AT7.out HOK.out).keep (Chg.of_below [] B8.out) (by simp) (fun k hk => ⟨⟨by have := BK.out.size; have := hk.1; omega, Nat.lt_of_lt_of_le hk.2 B8.out.size⟩, ?_, ?_⟩))
                      · have := (XK.out.lt c XK.out.inQ.1).2; have := hk.1; omega
                      · have := (XK.out.lt _ XK.out.inQ.2.1).2; have := hk.1; omega
                    · exact (X7.out.at' r' h).keep (Chg.of_below [] B8.out) (by simp) (fun k hk => ⟨⟨hk.1.1, Nat.lt_of_lt_of_le hk.1.2 B8.out.size⟩, hk.2⟩)
                  · obtain ⟨a, ha, h⟩ := (lists (seeG s f) n (k + 1)).src x hx
                    have := there_in h (by omega) (igetB_ok s _)
                    simpa using this)
                obtain ⟨lv', L', hX', hB'⟩ := R.out
                have HR := hid (show RoRel w g s f n ep c w.heap.size (.int .i64 ((k : Int) + 1)) (w8.setCell ⟨c, 3, none⟩ (.slice ba8 bn8 bc8)) from ⟨k + 1, lv', L', rfl, hlt, hX', hB'⟩)
                clear R hX' hB' c83 f83
                go_wp2_with fail
                refine ⟨?_, by simp only [intOf]; omega⟩
                first | exact HR.out | ((repeat apply Exists.intro); refine ⟨HR.out, ?_⟩; and_intros <;> rfl)
            · have hj4 : (j : Int) ≤ 100000 := by have := HLE.out; have := HLN.out; omega
              have hjl : (j : Int) < (ln : Int) := by have := HLN.out; omega
              obtain ⟨b, off, rfl, hcell⟩ := cs_row riV_length (HCS.out X6.out.row) hj (by decide)
              have d1 := hcell 1 _ rfl
              obtain ⟨rj, hrj⟩ : ∃ r', L[j] = r' := ⟨_, rfl⟩
              rw [hrj] at d1 hli
              clear hcell hrj
              rcases hli with ⟨hv, hli⟩ | ⟨hv, hli⟩
              · have hv' : (rj.x.ver : Int) < (r.x.ver : Int) := by omega
                have HLI := hid hli
                clear hli hv
                go_upto_region 13 with fail
                go_quiet (fail)
                have bq := below_drewN (Below.refl w6.heap.size w6) nq
                have X7 := hid (X6.out.new bq (Nat.le_refl _))
                have BB7 := hid (BB6.out.trans (bq.mono BB6.out.size))
                have AT7 := hid (fun h => (AT6.out h).keep (Chg.of_below [] bq) (by simp) (fun k hk => (⟨hk.1, Nat.lt_of_lt_of_le hk.2 bq.size⟩ : NewIn wr.heap.size (w6.drewN nq) k)))
                have K7 := hid (K6.out.below bq)
                clear bq e3 e1 d1
                generalize w6.drewN nq = w7 at X7 BB7 AT7 K7 ⊢
                have CS7 := hid fun (W : World) (hW : Below w7.heap.size w7 W) => (show Calls Tryd.prog 61 #[.slice (some ⟨b, off, none⟩) ln lc, .agg (riV r).toArray] W (SetTo W L r) from rset_calls W (some ⟨b, off, none⟩) ln lc L r ((HCS.out (X7.out.below hW).row)) HLN.out HLC.out HLE.out (fun r' hr' => (XK.out.jobs r' hr').job) HRJ.out)
                have z3 := X7.out.own.get 3 rfl
                have z30 := K7.out.get 0 rfl
                have z31 := K7.out.get 1 rfl
                have z32 := K7.out.get 2 rfl
                have z33 := K7.out.get 3 rfl
                have z34 := K7.out.get 4 rfl
                go_upto_region 14 with fail
                go_region_with (go_at_call 61; refine (CS7.out _ (below_drewN (Below.refl _ _) _)).mono ?_; rintro e w8 ⟨bv, rfl, hro8, hb8⟩; obtain ⟨ba8, bn8, bc8, rfl, _, _, _⟩ := hro8.cs; have RO8 := hid hro8; have B8 := hid ((below_drewN (Below.refl w7.heap.size w7) _).trans (hb8.mono (below_drewN (Below.refl w7.heap.size w7) _).size)); have c83 := (X7.out.own.below B8.out).get 3 rfl; have f83 := (X7.out.own.below B8.out).free 3; clear hro8 hb8)
                all_goals
                  have R := hid (show ∃ lv' L', XSto (w8.setCell ⟨c, 3, none⟩ (.slice ba8 bn8 bc8)) (NewIn w.heap.size (w8.setCell ⟨c, 3, none⟩ (.slice ba8 bn8 bc8))) w.heap.size g c w.heap.size lv' L' ⟨s, f, ep, listI (seeG s f) n (k + 1), List.replicate n false, false⟩ ∧ Below w.heap.size w (w8.setCell ⟨c, 3, none⟩ (.slice ba8 bn8 bc8)) from by
                    have hz7 := BB7.out.size
                    have hm := setR_map r XK.out.L XK.out.sorted
                    refine ⟨_, setK keyR r L, (XSto.list (Q' := NewIn w.heap.size w8) (l := listI (seeG s f) n (k + 1)) X7.out B8.out (RO8.out.base' (by first | exact Nat.le_trans hz7 (below_drewN (Below.refl w7.heap.size w7) _).size | simpa using hz7)) (fun x hx => by have := (RO8.out.ownBlock x hx).1; simpa using this) (fun r' hr' => ?_) (by rw [hm.1, HLI.out]) (lists _ _ _).sorted (fun x hx => ?_) (fun k hk => ⟨hk.1, Nat.lt_of_lt_of_le hk.2 B8.out.size⟩) (fun k h1 h2 => ⟨by omega, h2⟩) (fun k hk => hk)).toNew (Nat.le_refl _) (fun k hk => hk.1), (BB7.out.trans (B8.out.mono BB7.out.size)).trans ((chg_setCell _ _ _ _).below (BB7.out.trans (B8.out.mono BB7.out.size)).size (fun x hx => by rw [List.mem_singleton] at hx; subst hx; exact HCG.out))⟩
                    · rcases hm.2 r' hr' with rfl | h
                      · refine ((AT7.out HOK.out).keep (Chg.of_below [] B8.out) (by simp) (fun k hk => ⟨⟨by have := BK.out.size; have := hk.1; omega, Nat.lt_of_lt_of_le hk.2 B8.out.size⟩, ?_, ?_⟩))
                        · have := (XK.out.lt c XK.out.inQ.1).2; have := hk.1; omega
                        · have := (XK.out.lt _ XK.out.inQ.2.1).2; have := hk.1; omega
                      · exact (X7.out.at' r' h).keep (Chg.of_below [] B8.out) (by simp) (fun k hk => ⟨⟨hk.1.1, Nat.lt_of_lt_of_le hk.1.2 B8.out.size⟩, hk.2⟩)
                    · obtain ⟨a, ha, h⟩ := (lists (seeG s f) n (k + 1)).src x hx
                      have := there_in h (by omega) (igetB_ok s _)
                      simpa using this)
                  obtain ⟨lv', L', hX', hB'⟩ := R.out
                  have HR := hid (show RoRel w g s f n ep c w.heap.size (.int .i64 ((k : Int) + 1)) (w8.setCell ⟨c, 3, none⟩ (.slice ba8 bn8 bc8)) from ⟨k + 1, lv', L', rfl, hlt, hX', hB'⟩)
                  clear R hX' hB' c83 f83
                  go_wp2_with fail
                  refine ⟨?_, by simp only [intOf]; omega⟩
                  first | exact HR.out | ((repeat apply Exists.intro); refine ⟨HR.out, ?_⟩; and_intros <;> rfl)
              · have hv' : ¬ ((rj.x.ver : Int) < (r.x.ver : Int)) := by omega
                have HLI := hid hli
                clear hli hv
                go_upto_region 13 with fail
                go_quiet (fail)
                have bq := below_drewN (Below.refl w6.heap.size w6) nq
                have X7 := hid (X6.out.new bq (Nat.le_refl _))
                have BB7 := hid (BB6.out.trans (bq.mono BB6.out.size))
                have AT7 := hid (fun h => (AT6.out h).keep (Chg.of_below [] bq) (by simp) (fun k hk => (⟨hk.1, Nat.lt_of_lt_of_le hk.2 bq.size⟩ : NewIn wr.heap.size (w6.drewN nq) k)))
                have K7 := hid (K6.out.below bq)
                clear bq e3 e1 d1
                generalize w6.drewN nq = w7 at X7 BB7 AT7 K7 ⊢
                have R : RoRel w g s f n ep c w.heap.size (.int .i64 ((k : Int) + 1)) w7 := ⟨k + 1, _, L, rfl, hlt, by rw [HLI.out]; exact X7.out, BB7.out⟩
                have HR := hid R
                clear R
                go_wp2_with fail
                refine ⟨?_, by simp only [intOf]; omega⟩
                first | exact HR.out | ((repeat apply Exists.intro); refine ⟨HR.out, ?_⟩; and_intros <;> rfl)
      · have hlt' : ¬ ((k : Int) < (n : Int)) := by omega
        obtain rfl : k = n := by omega
        obtain ⟨la, ln, lc, rfl, hln, hlc, _⟩ := XK.out.row.cs
        have HLN := hid hln
        have HCS := hid fun {W : World} (h : RO riV 5 W w.heap.size 53 (.slice la ln lc) L) => (show CS W la lc 5 (L.flatMap riV) from by obtain ⟨a, n, c, e, _, _, h3⟩ := h.cs; cases e; exact h3)
        have hln4 : (ln : Int) ≤ 100000 := by have h1 := XK.out.len; have h2 := listI_len (seeG s f) k k; dsimp only at h1; omega
        have hlc' : (ln : Int) ≤ (lc : Int) := by omega
        have e3 := XK.out.own.get 3 rfl
        have R1 := hid (show RmRel w g s f k ep c w.heap.size (.slice la ln lc) L (.int .i64 0) wr from ⟨0, rfl, Nat.zero_le _, XK.out, BK.out⟩)
        have HOK := hid (fun r hr => (XK.out.jobs r hr))
        have HLL := hid XK.out.L
        clear hlt hk hln hlc hcg
        go_wp2_with fail
        go_loopw [16, 18, 106] (fun _ _ iv wr' => RmRel w g s f k ep c w.heap.size (.slice la ln lc) L iv wr') (fun _ _ iv _ => ln - (intOf iv).toNat)
        case atStart => exact R1.out
        case round =>
          clear R1 e3
          obtain ⟨w9, rfl⟩ : ∃ w9 : World, w9 = wr := ⟨_, rfl⟩
          obtain ⟨i, rfl, hi, hX, hB⟩ := hrel
          have XI := hid hX
          have BI := hid hB
          clear hX hB
          by_cases hli : i < ln
          · have hli' : (i : Int) < (ln : Int) := by omega
            have hil : i < L.length := by rw [HLN.out]; exact hli
            obtain ⟨b, off, rfl, hcell⟩ := cs_row riV_length (HCS.out XI.out.row) hil (by decide)
            have d0 := hcell 0 _ rfl
            have d1 := hcell 1 _ rfl
            have d2 := hcell 2 _ rfl
            have d3 := hcell 3 _ rfl
            have d4 := hcell 4 _ rfl
            obtain ⟨r, hr⟩ : ∃ r, L[i] = r := ⟨_, rfl⟩
            rw [hr] at d0 d1 d2 d3 d4
            have HR := hid hr
            have HRM := hid (show r ∈ L from hr ▸ List.getElem_mem hil)
            rw [Nat.add_zero] at d0
            clear hcell hr
            obtain ⟨x, ba, bc, aa, ac⟩ := r
            dsimp only at d0 d1 d2 d3 d4
            go_upto_region 19 with fail
            have b5 := below_alloc w9 (.cells #[.int .u32 (x.job : Int), .int .u32 (x.ver : Int), .int .i64 x.credit, .slice ba x.blobs.length bc, .slice aa x.at'.length ac] 53)
            have k5 := blk_alloc w9 [.int .u32 (x.job : Int), .int .u32 (x.ver : Int), .int .i64 x.credit, .slice ba x.blobs.length bc, .slice aa x.at'.length ac] 53
            have z4 := k5.get 4 rfl
            have X5 := hid (XI.out.new b5 (Nat.le_refl _))
            have B5 := hid (BI.out.trans (b5.mono BI.out.size))
            clear d0 d1 d2 d3 d4 b5 k5
            generalize (w9.alloc (.cells #[.int .u32 (x.job : Int), .int .u32 (x.ver : Int), .int .i64 x.credit, .slice ba x.blobs.length bc, .slice aa x.at'.length ac] 53)) = w5 at X5 B5 z4 ⊢
            have IN := hid (HOK.out _ HRM.out)
            have hal : (x.at'.length : Int) ≤ 17 := by have h1 := IN.out.at'; have h2 := IN.out.few; dsimp only at h1 h2; omega
            have R2 := hid (show RmjRel w g s f k ep c w.heap.size (.slice (some ⟨b, off, none⟩) ln lc) L (markI (List.replicate k false) ((L.take i).flatMap fun r => r.x.at')) x.at' (.int .i64 0) w5 from ⟨0, rfl, Nat.zero_le _, X5.out, B5.out⟩)
            go_wp2_with fail
            go_loopw [18, 113] (fun _ jv wr' => RmjRel w g s f k ep c w.heap.size (.slice (some ⟨b, off, none⟩) ln lc) L (markI (List.replicate k false) ((L.take i).flatMap fun r => r.x.at')) x.at' jv wr') (fun _ jv _ => x.at'.length - (intOf jv).toNat)
            case atStart => exact R2.out
            case round =>
              clear R2 z4
              obtain ⟨w10, rfl⟩ : ∃ w10 : World, w10 = wr := ⟨_, rfl⟩
              obtain ⟨j, rfl, hj, hX, hB⟩ := hrel
              have XJ := hid hX
              have BJ := hid hB
              clear hX hB
              by_cases hlj : j < x.at'.length
              · have hlj' : (j : Int) < (x.at'.length : Int) := by omega
                obtain ⟨ab, ao, rfl, _, hcell⟩ := (XJ.out.at' _ HRM.out).2.at hlj
                have hin := IN.out.inn (x.at'.getD j 0) (by rw [getD_in hlj]; exact List.getElem_mem hlj)
                obtain ⟨pj, hpj⟩ : ∃ pj, x.at'.getD j 0 = pj := ⟨_, rfl⟩
                rw [hpj] at hcell hin
                have hml : (markI (markI (List.replicate k false) ((L.take i).flatMap fun r => r.x.at')) (x.at'.take j)).length = k := by unfold markI; rw [markI_len, markI_len, List.length_replicate]
                have hpk : pj < k := by simpa using hin
                have hpk' : (pj : Int) < (k : Int) := by omega
                have HPJ := hid hpj
                have c4 := XJ.out.own.get 4 rfl
                dsimp only at c4
                rw [hml] at c4
                have u0 := XJ.out.us.get pj (v := .bool ((markI (markI (List.replicate k false) ((L.take i).flatMap fun r => r.x.at')) (x.at'.take j)).getD pj false)) (by rw [List.getElem?_map, List.getElem?_eq_getElem (by rw [hml]; exact hpk), getD_in (by rw [hml]; exact hpk)]; rfl)
                have uf := XJ.out.us.free pj
                have R3 := hid (show RmjRel w g s f k ep c w.heap.size (.slice (some ⟨b, off, none⟩) ln lc) L (markI (List.replicate k false) ((L.take i).flatMap fun r => r.x.at')) x.at' (.int .i64 ((j : Int) + 1)) (w10.setCell ⟨w.heap.size, pj, none⟩ (.bool true)) from by
                  refine ⟨j + 1, rfl, hlj, ?_, BJ.out.trans ((chg_setCell _ _ _ _).below BJ.out.size (fun q hq => by rw [List.mem_singleton] at hq; subst hq; exact Nat.le_refl _))⟩
                  have h := (XJ.out.mark pj true).toNew (n := w.heap.size) (Nat.le_refl _) (fun k hk => hk.1)
                  have e : markI (markI (List.replicate k false) ((L.take i).flatMap fun r => r.x.at')) (x.at'.take (j + 1)) = (markI (markI (List.replicate k false) ((L.take i).flatMap fun r => r.x.at')) (x.at'.take j)).set pj true := by
                    rw [List.take_succ_eq_append_getElem hlj, ← getD_in (d := 0) hlj, HPJ.out]
                    unfold markI
                    rw [List.foldl_append]
                    rfl
                  rw [e]
                  exact h)
                clear hml hpj hin hpk
                go_wp2_with fail
                refine ⟨?_, by simp only [intOf]; omega⟩
                first | exact R3.out | ((repeat apply Exists.intro); refine ⟨R3.out, ?_⟩; and_intros <;> rfl)
              · have hlj' : ¬ ((j : Int) < (x.at'.length : Int)) := by omega
                obtain rfl : j = x.at'.length := by omega
                have R3 := hid (show RmRel w g s f k ep c w.heap.size (.slice (some ⟨b, off, none⟩) ln lc) L (.int .i64 ((i : Int) + 1)) w10 from by
                  refine ⟨i + 1, rfl, hil, ?_, BJ.out⟩
                  have h := XJ.out
                  rw [List.take_length] at h
                  rw [List.take_succ_eq_append_getElem hil, List.flatMap_append, HR.out]
                  rw [show markI (List.replicate k false) (((L.take i).flatMap fun r => r.x.at') ++ [(⟨x, ba, bc, aa, ac⟩ : RI)].flatMap fun r => r.x.at') = markI (markI (List.replicate k false) ((L.take i).flatMap fun r => r.x.at')) x.at' from by unfold markI; rw [List.foldl_append]; simp]
                  exact h)
                go_wp2_with fail
                refine ⟨?_, by simp only [intOf]; omega⟩
                first | exact R3.out | ((repeat apply Exists.intro); refine ⟨R3.out, ?_⟩; and_intros <;> rfl)
          · have hli' : ¬ ((i : Int) < (ln : Int)) := by omega
            obtain rfl : i = ln := by have := HLN.out; omega
            go_wp2_with fail
            go_ret2
            have hR : R0 = (some ⟨s, f, ep, listI (seeG s f) k k, usedI k (listI (seeG s f) k k), false⟩, 0) := by
              rw [← HR0.out, HR1.out, Int.toNat_natCast, show (((f + k : Nat) : Int) - (f : Int)).toNat = k from by omega]
            rw [hR]
            refine ⟨BI.out, c, w.heap.size, .slice la i lc, L, rfl, ?_⟩
            have h := XI.out
            rw [List.take_of_length_le (Nat.le_of_eq HLN.out)] at h
            rw [show usedI k (listI (seeG s f) k k) = markI (List.replicate k false) (L.flatMap fun r => r.x.at') from by rw [← usedI_marks, ← HLL.out, List.flatMap_map]]
            exact h
end Go.Proofs.YtoapibbbooongaaDoor
