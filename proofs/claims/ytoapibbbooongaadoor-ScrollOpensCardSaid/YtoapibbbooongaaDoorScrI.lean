/- The walks of layer 7's law that only make: few; the document's Same. -/
import Derived.Test.YtoapibbbooongaaDoorScrD
import Derived.Test.YtoapibbbooongaaDoorZeros
import Derived.Deep.RegionHeldLaw
namespace Go.Proofs.YtoapibbbooongaaDoor
open Go.RowKit Go.Quad _root_.Quad _root_.Quad.Slab _root_.Quad.Ink

def fewL (l : List Bytes) : List Bytes := (l.take 6).map (List.take 300)
theorem fewL_more {l : List Bytes} {k : Nat} (h : k < l.length) (h6 : k < 6) : fewL (l.take (k + 1)) = fewL (l.take k) ++ [(l.getD k []).take 300] := by
  unfold fewL
  rw [List.take_take, List.take_take, show min 6 (k + 1) = k + 1 from by omega, show min 6 k = k from by omega, List.take_succ_eq_append_getElem h, ← getD_in (d := []) h, List.map_append]
  rfl
theorem fewL_same {l : List Bytes} {k : Nat} (h6 : ¬ k < 6) : fewL (l.take (k + 1)) = fewL (l.take k) := by
  unfold fewL
  rw [List.take_take, List.take_take, show min 6 (k + 1) = 6 from by omega, show min 6 k = 6 from by omega]
theorem fewL_len (l : List Bytes) : (fewL l).length ≤ 6 := by unfold fewL; rw [List.length_map, List.length_take]; omega
theorem fewL_small {l : List Bytes} : ∀ t ∈ fewL l, t.length ≤ 300 := by
  intro t ht
  unfold fewL at ht
  obtain ⟨x, _, rfl⟩ := List.mem_map.1 ht
  rw [List.length_take]; omega
def FwRel (w : World) (l : List Bytes) (bv iv : Value) (wr : World) : Prop := ∃ (k : Nat) (ts : List TS), iv = .int .i64 (k : Int) ∧ k ≤ l.length ∧ ts.map TS.p = fewL (l.take k) ∧ Texts w wr ts bv ∧ Below w.heap.size w wr
set_option maxRecDepth 100000 in
set_option maxHeartbeats 2000000 in
theorem few_calls (w : World) (Q : Nat → Prop) (a : Option Addr) (n c : Nat) (l : List Bytes) (h : BL w Q (.slice a n c) l) (hl : (l.length : Int) ≤ 9223372036854775807) :
    Calls Tryd.prog 39 #[.slice a n c] w (CopiesTo w (fewL l)) := by
  have H := hid h
  obtain rfl : n = l.length := h.len.1
  clear h
  have R0 := hid (show FwRel w l (.slice none 0 0) (.int .i64 0) w from ⟨0, [], rfl, Nat.zero_le _, rfl, ⟨RO.nil _ _ _ _ _, by simp⟩, Below.refl _ _⟩)
  go_enter Tryd.func39, Tryd.ntmps39
  go_wp2_with fail
  go_loopw [3, 8] (fun bv iv wr => FwRel w l bv iv wr) (fun _ iv _ => l.length - (intOf iv).toNat)
  case atStart => exact R0.out
  case round =>
    clear R0
    obtain ⟨k, ts, rfl, hk, hts, htx, hb⟩ := hrel
    have HTS := hid hts
    have TX := hid htx
    have BR := hid hb
    have HFL := hid (fewL_len (l.take k))
    have HLN := hid (show ts.length ≤ 6 from by have := congrArg List.length hts; rw [List.length_map] at this; have := HFL.out; omega)
    clear hts hb
    obtain ⟨a3, n3, c3, rfl, _, _, _⟩ := htx.rb.cs
    clear htx
    by_cases hlt : k < l.length
    · have hlt' : (k : Int) < (l.length : Int) := by omega
      obtain ⟨b, off, rfl, _, v, hcell, a4, c4, rfl, hbs, _⟩ := (H.out.below BR.out).at hlt
      obtain ⟨tt, htt⟩ : ∃ tt, l.getD k [] = tt := ⟨_, rfl⟩
      rw [htt] at hcell hbs
      have HTT := hid htt
      have BS4 := hid hbs
      obtain ⟨n4, hn4⟩ : ∃ n4, tt.length = n4 := ⟨_, rfl⟩
      have HN4 := hid hn4
      rw [hn4] at hcell
      have hfit := hbs.fit'
      rw [hn4] at hfit
      clear hbs htt hn4
      by_cases h6 : k < 6
      · have h6' : (k : Int) < 6 := by omega
        obtain ⟨m4, hm4⟩ : ∃ m4, min n4 300 = m4 := ⟨_, rfl⟩
        have HM4 := hid hm4
        have hl4 : (tt.take m4).length = m4 := by rw [List.length_take]; have := HN4.out; omega
        have ht4 : BS wr a4 c4 (tt.take m4) := by have := CS.take BS4.out m4; unfold BS; rw [List.map_take]; exact this
        have he4 : tt.take 300 = tt.take m4 := by rw [← hm4, ← HN4.out, Nat.min_comm, List.take_eq_take_iff]; omega
        obtain ⟨P, hP⟩ : ∃ P, tt.take m4 = P := ⟨_, rfl⟩
        rw [hP] at hl4 ht4 he4
        have HL4 := hid hl4
        have T4 := hid ht4
        have HE4 := hid he4
        clear hl4 ht4 he4 hP
        have hcs : ((300 : Int) < (n4 : Int) ∧ m4 = 300) ∨ (¬ ((300 : Int) < (n4 : Int)) ∧ n4 = m4) := by omega
        clear hm4
        rcases hcs with ⟨hc3, rfl⟩ | ⟨hc3, rfl⟩
        all_goals
          clear HM4
          go_wp2_with (first
            | (at_builtin; refine wpList_append_ro tsV_length tsV_one (by decide) (.tmp 15) (.tmp 23) _ rfl rfl w.heap.size 33 _ 24 info_slb rfl under_slbs _ ts X5.out.rb rfl (l' := [⟨a5, p5, P⟩]) rfl (show CS _ _ _ _ ([(⟨a5, p5, P⟩ : TS)].flatMap tsV) from L5.out) (Nat.le_refl _) rfl (by have := HLN.out; simp; omega) (Nat.le_trans (Nat.le_trans BR.out.size B5.out.size) (below_alloc w5 _).size) ?_; intro v6 w6 ho6 hb6 hg6 hv6; have O6 := hid ho6; have G6 := hid hg6; have V6 := hid hv6; have B6 := hid hb6; clear ho6 hb6 hg6 hv6)
            | (at_builtin; go_must (refine wpList_append_lit0 (.tmp 16) (.tmp 21) _ rfl rfl 5 info_u8 under_bytes rfl T4.out _ HL4.out rfl (by rw [HL4.out]; omega) ?_; intro v5 w5 ho5 hb5; obtain ⟨a5, n5, p5, rfl, hn5, hbs5, hof5⟩ := ob_n ho5; have BS5 := hid hbs5; have OF5 := hid hof5; have B5 := hid hb5; have NN5 := hid hn5; have ets : tsV ⟨a5, p5, P⟩ = [.slice a5 n5 p5] := (by show [Value.slice a5 P.length p5] = _; rw [hn5]); have X5 := hid (TX.out.keep (Chg.of_below [] (hb5.trans ((below_alloc w5 (.cells #[.slice a5 n5 p5] 33)).mono hb5.size))) (by simp)); have L5 := hid (show CS (w5.alloc (.cells #[.slice a5 n5 p5] 33)) (some ⟨w5.heap.size, 0, none⟩) 1 1 ([(⟨a5, p5, P⟩ : TS)].flatMap tsV) from (by rw [List.flatMap_singleton, ets]; exact cs_lit w5 [.slice a5 n5 p5] 33 1 1 rfl (by simp [maxLen]))); clear ho5 hb5 hbs5 hof5 hn5 ets)))
          have hbw : Below wr.heap.size wr (w5.alloc (.cells (tsV ⟨a5, p5, P⟩).toArray 33)) := B5.out.trans ((below_alloc w5 _).mono B5.out.size)
          have R : FwRel w l v6 (.int .i64 ((k : Int) + 1)) w6 := ⟨k + 1, ts ++ [⟨a5, p5, P⟩], rfl, hlt, by
              rw [List.map_append, HTS.out, fewL_more hlt h6, HTT.out, HE4.out]
              rfl,
            TX.out.more BR.out.size hbw ⟨a5, p5, P⟩ (bs_keep BS5.out (Chg.of_below [] (below_alloc w5 _)) (.inr (by simp))) (fun x hx => ⟨(OF5.out x hx).2.2.1, Nat.lt_of_lt_of_le (OF5.out x hx).2.2.2 (below_alloc w5 _).size⟩) O6.out (by rw [show tsV ⟨a5, p5, P⟩ = [.slice a5 n5 p5] from by (show [Value.slice a5 P.length p5] = _; rw [NN5.out])]; exact G6.out) (by rw [show tsV ⟨a5, p5, P⟩ = [.slice a5 n5 p5] from by (show [Value.slice a5 P.length p5] = _; rw [NN5.out])]; exact V6.out),
            (BR.out.trans (B5.out.mono BR.out.size)).trans ((((below_alloc w5 _).mono (Nat.le_trans BR.out.size B5.out.size))).trans B6.out)⟩
          exact ⟨R, by simp only [intOf]; omega⟩
      · have h6' : ¬ ((k : Int) < 6) := by omega
        have R : FwRel w l (.slice a3 n3 c3) (.int .i64 ((k : Int) + 1)) wr := ⟨k + 1, ts, rfl, hlt, by rw [fewL_same h6]; exact HTS.out, TX.out, BR.out⟩
        go_wp2_with fail
        exact ⟨R, by simp only [intOf]; omega⟩
    · have hlt' : ¬ ((k : Int) < (l.length : Int)) := by omega
      obtain rfl : k = l.length := by omega
      go_wp2_with fail
      go_ret
      exact ⟨ts, _, rfl, by rw [HTS.out, List.take_length], TX.out, BR.out⟩
theorem wcell_lt {w : World} {b i : Nat} {v : Value} (h : w.cell? ⟨b, i, none⟩ = some v) : b < w.heap.size := by
  apply Classical.byContradiction
  intro hn
  have : w.heap[b]? = none := Array.getElem?_eq_none (by omega)
  simp [World.cell?, this] at h
set_option maxRecDepth 100000 in
set_option maxHeartbeats 2000000 in
theorem same7_calls (w : World) (Q Q' : Nat → Prop) (a : Option Addr) (n c : Nat) (l : List Bytes) (a' : Option Addr) (n' c' : Nat) (l' : List Bytes) (h : BL w Q (.slice a n c) l) (h' : BL w Q' (.slice a' n' c') l') (hl : l.length ≤ 1000000) (hl' : l'.length ≤ 1000000) :
    Calls Tryd.prog 35 #[.slice a n c, .slice a' n' c'] w fun e w' => e = .returned (.bool (decide (l = l'))) ∧ Below w.heap.size w w' := by
  have H := hid h
  have H' := hid h'
  obtain rfl : n = l.length := h.len.1
  obtain rfl : n' = l'.length := h'.len.1
  have hl1 : (l.length : Int) ≤ 1000000 := by omega
  have hl2 : (l'.length : Int) ≤ 1000000 := by omega
  clear h h' hl hl'
  go_enter Tryd.func35, Tryd.ntmps35
  by_cases hne : l.length = l'.length
  case neg =>
    have hne' : ((l.length : Int) != (l'.length : Int)) = true := by rw [bne_iff_ne]; omega
    have E := hid (show decide (l = l') = false from decide_eq_false fun e => hne (by rw [e]))
    clear hne
    go_wp2_with fail
    go_ret
    rw [E.out]
    exact ⟨rfl, Below.refl _ _⟩
  obtain ⟨m, hm⟩ : ∃ m, l.length = m := ⟨_, rfl⟩
  have hm' : l'.length = m := by omega
  rw [hm] at hl1 ⊢
  rw [hm'] at hl2 ⊢
  have HM := hid hm
  have HM' := hid hm'
  rw [hm] at H
  rw [hm'] at H'
  clear hne hm hm'
  go_wp2_with fail
  go_loopw [5, 13] (fun _ iv wr => (∃ k : Nat, iv = .int .i64 (k : Int) ∧ k ≤ m ∧ l.take k = l'.take k) ∧ Below w.heap.size w wr) (fun _ iv _ => m - (intOf iv).toNat)
  case atStart => exact ⟨⟨0, rfl, Nat.zero_le _, rfl⟩, Below.refl _ _⟩
  case round =>
    obtain ⟨⟨k, rfl, hk, htk⟩, hb⟩ := hrel
    have HB := hid hb
    have HTK := hid htk
    clear htk
    by_cases hlt : k < m
    · have hlt' : (k : Int) < (m : Int) := by omega
      have hk1 : k < l.length := by rw [HM.out]; exact hlt
      have hk2 : k < l'.length := by rw [HM'.out]; exact hlt
      obtain ⟨b, off, rfl, _, v, hcell, a4, c4, rfl, hbs, _⟩ := (H.out.below hb).at hk1
      obtain ⟨b', off', rfl, _, v', hcell', a5, c5, rfl, hbs', _⟩ := (H'.out.below hb).at hk2
      have HE1 := hid (List.take_succ_eq_append_getElem hk1)
      have HE2 := hid (List.take_succ_eq_append_getElem hk2)
      have HG1 := hid (getD_in (d := []) hk1)
      have HG2 := hid (getD_in (d := []) hk2)
      obtain ⟨t1, ht1⟩ : ∃ t1, l.getD k [] = t1 := ⟨_, rfl⟩
      obtain ⟨t2, ht2⟩ : ∃ t2, l'.getD k [] = t2 := ⟨_, rfl⟩
      rw [ht1] at hcell hbs HG1
      rw [ht2] at hcell' hbs' HG2
      clear ht1 ht2
      obtain ⟨n4, hn4⟩ : ∃ n4, t1.length = n4 := ⟨_, rfl⟩
      obtain ⟨n5, hn5⟩ : ∃ n5, t2.length = n5 := ⟨_, rfl⟩
      rw [hn4] at hcell
      rw [hn5] at hcell'
      have HL1 := hid (wcell_lt hcell)
      have HL2 := hid (wcell_lt hcell')
      have HC1 := hid hcell
      have HC2 := hid hcell'
      have MKS := hid fun (W : World) (hW : Below wr.heap.size wr W) => (show (W.cell? ⟨b, off + k, none⟩ = some (.slice a4 n4 c4) ∧ W.cell? ⟨b', off' + k, none⟩ = some (.slice a5 n5 c5) ∧ Below wr.heap.size wr W) from ⟨(hW.cell HL1.out).trans HC1.out, (hW.cell HL2.out).trans HC2.out, hW⟩)
      have SB := hid fun (W : World) (h : W.cell? ⟨b, off + k, none⟩ = some (.slice a4 n4 c4) ∧ W.cell? ⟨b', off' + k, none⟩ = some (.slice a5 n5 c5) ∧ Below wr.heap.size wr W) => h.2.2
      obtain ⟨bo, hbo⟩ : ∃ bo, (t1 == t2) = bo := ⟨_, rfl⟩
      have HC := hid fun (W : World) (hW : Below wr.heap.size wr W) => (show Calls Tryd.prog 33 #[.slice a4 n4 c4, .slice a5 n5 c5] W (fun e w' => e = .returned (.bool bo) ∧ W = w') from (by have h0 := same_calls a4 a5 c4 c5 t1 t2 W (hbs.below hW) (hbs'.below hW); rw [hn4, hn5, hbo] at h0; exact h0))
      have HBO := hid hbo
      clear hn4 hn5 hbs hbs' hcell hcell' hbo
      go_upto_region 6 with fail
      go_region_held3 (fun W => (W.cell? ⟨b, off + k, none⟩ = some (.slice a4 n4 c4) ∧ W.cell? ⟨b', off' + k, none⟩ = some (.slice a5 n5 c5) ∧ Below wr.heap.size wr W))
        ((refine MKS.out _ ?_; first | with_reducible exact below_drew _ | with_reducible exact Below.refl _ _ | with_reducible exact SB.out _ (by assumption)))
        ((go_at_call 33; refine (HC.out _ (SB.out _ (by assumption))).mono ?_; rintro e w5 ⟨rfl, rfl⟩))
      have HR := hid (show Below w.heap.size w wr.drew from HB.out.trans ((below_drew wr).mono HB.out.size))
      cases bo with
      | true =>
        have ht : t1 = t2 := by have := HBO.out; exact eq_of_beq this
        have HK := hid (show l.take (k + 1) = l'.take (k + 1) from by rw [HE1.out, HE2.out, HTK.out, ← HG1.out, ← HG2.out, ht])
        clear ht
        go_wp2_with fail
        refine ⟨?_, by simp [intOf]; omega⟩
        first | exact ⟨⟨k + 1, rfl, hlt, HK.out⟩, HR.out⟩ | ((repeat apply Exists.intro); refine ⟨⟨⟨k + 1, rfl, hlt, HK.out⟩, HR.out⟩, ?_⟩; and_intros <;> rfl)
      | false =>
        have E := hid (show decide (l = l') = false from decide_eq_false fun e => by
          have h1 := HBO.out
          have h2 : t1 = t2 := by
            subst e
            exact HG1.out.trans HG2.out.symm
          rw [h2, beq_self_eq_true] at h1
          cases h1)
        go_wp2_with fail
        go_ret
        rw [E.out]
        exact ⟨rfl, HR.out⟩
    · have hlt' : ¬ ((k : Int) < (m : Int)) := by omega
      have E := hid (show decide (l = l') = true from decide_eq_true (by
        have h1 := HTK.out
        rwa [List.take_of_length_le (by rw [HM.out]; omega), List.take_of_length_le (by rw [HM'.out]; omega)] at h1))
      go_wp2_with fail
      go_ret
      rw [E.out]
      exact ⟨rfl, HB.out⟩
end Go.Proofs.YtoapibbbooongaaDoor
