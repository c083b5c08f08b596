/- ScrollOpens: any sectors are a scroll, or none; opened twice they tell the same. -/
import Derived.Test.YtoapibbbooongaaDoorScrOp
namespace Go.Proofs.YtoapibbbooongaaDoor
open Go.RowKit Go.Quad _root_.Quad _root_.Quad.Slab _root_.Quad.Ink

/-- a code's slab and the document's, alike -/
structure OpSt (i : Nat) (s : Sl) : Prop where
  q : Quiet s
  len : s.done.length = 8
  steps : s.steps ≤ min i 8
  way : s.way.length ≤ min i 8
theorem OpSt.put {i : Nat} {s : Sl} (h : OpSt i s) (hi : i < 8) {t : Bytes} (ht : t.length ≤ 128) : OpSt (i + 1) (writeL s (i : Int) t).1 := by
  obtain ⟨s', e, q, d, st, wy⟩ := quiet_writeL h.q (by rw [h.len]; exact hi) ht
  rw [e]
  have := h.steps
  have := h.way
  exact ⟨q, by rw [d]; exact h.len, by show s'.steps ≤ _; omega, by show s'.way.length ≤ _; omega⟩
def OpRel (w1 : World) (B2 g d g2 dn dc m : Nat) (iv : Value) (wr : World) : Prop :=
  ∃ (i : Nat) (s : Sl), iv = .int .i64 (i : Int) ∧ i ≤ m ∧ Pl w1 B2 g d g2 dn dc [] s s wr ∧ OpSt i s
def OpTo (w : World) (e : Ending) (w' : World) : Prop := e = .returned (.bool true) ∧ Below w.heap.size w w'
set_option maxRecDepth 100000 in
set_option maxHeartbeats 20000000 in
theorem scrollOpens_walk (v0 : Value) (w : World) (h0 : RV Tryd.prog w 34 v0) (hq : Laid w) :
    Calls Tryd.prog 7 #[v0] w (OpTo w) := by
  obtain ⟨ad, cp, L, rfl, hL⟩ := rvbl_open h0
  have HQ := hid hq
  have HL := hid hL
  have hm := bl_max hL
  clear h0 hq hL
  go_enter Tryd.func7, Tryd.ntmps7
  go_upto_region 3 with (go_at_call 28; go_must (refine (sawake_calls w HQ.out).mono ?_; rintro e w1 ⟨rfl, hb1⟩; have B1 := hid hb1; clear hb1; dsimp only))
  have L1 := hid (HQ.out.below B1.out HQ.out.1)
  go_upto_region 4 with (go_at_call 12; go_must (refine (sa_new w1 8 (by decide)).mono ?_; rintro e w2 ⟨g, rfl, h1⟩; have S1 := hid h1; clear h1; dsimp only))
  go_upto_region 5 with (go_at_call 16; go_must (refine (rnew_calls w2 8 (by decide)).mono ?_; rintro e w3 ⟨g2, dn, dc, rfl, h2, hb2⟩; have S2 := hid h2; have B3 := hid hb2; clear h2 hb2; dsimp only))
  obtain ⟨⟨d, wv, his⟩, hbs⟩ := S1.out
  have P3 := hid (show Pl w1 w2.heap.size g d g2 dn dc [] (newL 8) (newL 8) w3 from ⟨⟨wv, _, _, his.below B3.out, S2.out, fun k hk hf => by have := (his.in_ge k hk).2; have := hf.1; omega, by simp⟩, hbs.trans (B3.out.mono hbs.size), hbs.size⟩)
  obtain ⟨B2, hB2⟩ : ∃ B2, w2.heap.size = B2 := ⟨_, rfl⟩
  rw [hB2] at P3
  have R0 := hid (show OpRel w1 B2 g d g2 dn dc L.length (.int .i64 0) w3 from ⟨0, newL 8, rfl, Nat.zero_le _, P3.out, new_quiet 8, by simp [newL], Nat.le_refl _, Nat.le_refl _⟩)
  clear his hbs hB2
  go_wp2_with fail
  go_loopw [7, 8, 27] (fun _ _ iv wr => OpRel w1 B2 g d g2 dn dc L.length iv wr) (fun _ _ iv _ => L.length - (intOf iv).toNat)
  case atStart => exact R0.out
  case round =>
    clear R0
    obtain ⟨i, s, rfl, hil, hpl, hst⟩ := hrel
    have PL := hid hpl
    have ST := hid hst
    have bwr := hid (B1.out.trans (hpl.bel.mono B1.out.size))
    clear hpl hst
    by_cases hlt : i < L.length
    · have hlt' : (i : Int) < (L.length : Int) := by omega
      obtain ⟨b, off, rfl, _, v, hcell, a4, c4, rfl, hbs, _⟩ := (HL.out.below bwr.out).at hlt
      have hbs0 : BS w a4 c4 (L.getD i []) := by
        obtain ⟨b', off', e', _, v', hcell', a5, c5, rfl, hbs', _⟩ := HL.out.at hlt
        cases e'
        have h2 := cell_later bwr.out hcell'
        rw [hcell] at h2
        cases h2
        exact hbs'
      obtain ⟨tt, htt⟩ : ∃ tt, L.getD i [] = tt := ⟨_, rfl⟩
      rw [htt] at hcell hbs hbs0
      have BS0 := hid hbs0
      obtain ⟨n4, hn4⟩ : ∃ n4, tt.length = n4 := ⟨_, rfl⟩
      have HN4 := hid hn4
      rw [hn4] at hcell
      have hfit := hbs.fit'
      rw [hn4] at hfit
      clear hbs hbs0 htt hn4
      by_cases h8 : i < 8
      · have h8' : (i : Int) < 8 := by omega
        obtain ⟨m4, hm4⟩ : ∃ m4, min n4 128 = m4 := ⟨_, rfl⟩
        have hmin : (if (128 : Int) < (n4 : Int) then (128 : Int) else (n4 : Int)) = (m4 : Int) := by split <;> omega
        have hm3 : (m4 : Int) ≤ 128 := by omega
        have hmc : (m4 : Int) ≤ (c4 : Int) := by omega
        have hl4 : (tt.take m4).length = m4 := by rw [List.length_take]; have := HN4.out; omega
        have ht4 : BS w a4 c4 (tt.take m4) := by have := CS.take BS0.out m4; unfold BS; rw [List.map_take]; exact this
        obtain ⟨P, hP⟩ : ∃ P, tt.take m4 = P := ⟨_, rfl⟩
        rw [hP] at hl4 ht4
        have HP4 := hid hl4
        have TP4 := hid ht4
        have T4 := hid (ht4.below bwr.out)
        have ST2 := hid (ST.out.put h8 (t := P) (by rw [hl4]; omega))
        clear hm4 hl4 ht4 hP
        have CWG := hid fun (W5 : World) (a5 : Option Addr) (n5 p5 : Nat) (hb5 : Below wr.heap.size wr W5) (hn5 : P.length = n5) (hbs5 : BS W5 a5 p5 P) (hof5 : ∀ x, a5 = some x → wr.heap.size ≤ x.block ∧ x.block < W5.heap.size) => (show Calls Tryd.prog 17 #[.pointer (some ⟨g, 0, none⟩), .int .i64 (i : Int), .slice a5 n5 p5] W5 (fun e w' => e = .returned (.int .i64 ((writeL s (i : Int) P).2 : Int)) ∧ Pl w1 B2 g d g2 dn dc [] (writeL s (i : Int) P).1 s w') from by
          have hs := ST.out.steps
          have hw := ST.out.way
          cases a5 with
          | none =>
            have h0 : P = [] := by have := hbs5.fit'; have := CS.none hbs5 rfl; exact List.eq_nil_of_length_eq_zero (by omega)
            exact (pl_write (PL.out.below hb5) (i : Int) none p5 n5 P (by omega) hbs5 hn5 (by omega) (by omega) (.inl h0)).mono fun e w' h => ⟨h.1, h.2.1⟩
          | some x =>
            have hx := hof5 x rfl
            exact (pl_write (PL.out.more hb5 x.block hx.1 hx.2) (i : Int) (some x) p5 n5 P (by omega) hbs5 hn5 (by omega) (by omega) (.inr fun y hy => by cases hy; exact .inr (List.mem_singleton_self _))).mono fun e w' h => ⟨h.1, h.2.1.less (by simp)⟩)
        go_upto_region 10 with fail
        go_upto_region 11 with (first
          | (at_builtin; go_must (refine wpList_append_lit0 (.tmp 41) (.tmp 42) _ rfl rfl 5 info_u8 under_bytes rfl T4.out _ HP4.out rfl (by rw [HP4.out]; omega) ?_; intro v5 w5 ho5 hb5; obtain ⟨a5, n5, p5, rfl, hn5, hbs5, hof5⟩ := ob_n ho5; have CW := hid (CWG.out w5 a5 n5 p5 hb5 hn5 hbs5 (fun x hx => ⟨(hof5 x hx).2.2.1, (hof5 x hx).2.2.2⟩)); clear ho5 hb5 hbs5 hof5 hn5))
          | (go_at_call 17; go_must (refine CW.out.mono ?_; rintro e w6 ⟨rfl, h6⟩; have P6 := hid h6; clear h6; dsimp only)))
        have CP := hid (pl_put P6.out (i : Int) a4 c4 m4 P (by omega) (TP4.out.below (B1.out.trans (P6.out.bel.mono B1.out.size))) HP4.out (by have := ST.out.steps; omega) (by have := ST.out.way; omega) (offX_old TP4.out B1.out.size))
        go_wp2_with (go_at_call 18; go_must (refine CP.out.mono ?_; rintro e w7 ⟨rfl, h7, _⟩; have P7 := hid h7; clear h7; dsimp only))
        have R : OpRel w1 B2 g d g2 dn dc L.length (.int .i64 ((i : Int) + 1)) w7 := ⟨i + 1, _, rfl, hlt, P7.out, ST2.out⟩
        have HR := hid R
        clear R
        refine ⟨?_, by simp only [intOf]; omega⟩
        first | exact HR.out | ((repeat apply Exists.intro); refine ⟨HR.out, ?_⟩; and_intros <;> rfl)
      · have h8' : ¬ ((i : Int) < 8) := by omega
        have ST2 := hid (show OpSt (i + 1) s from ⟨ST.out.q, ST.out.len, by have := ST.out.steps; omega, by have := ST.out.way; omega⟩)
        have R : OpRel w1 B2 g d g2 dn dc L.length (.int .i64 ((i : Int) + 1)) wr := ⟨i + 1, _, rfl, hlt, PL.out, ST2.out⟩
        have HR := hid R
        clear R
        go_wp2_with fail
        refine ⟨?_, by simp only [intOf]; omega⟩
        first | exact HR.out | ((repeat apply Exists.intro); refine ⟨HR.out, ?_⟩; and_intros <;> rfl)
    · have hlt' : ¬ ((i : Int) < (L.length : Int)) := by omega
      have hs8 := ST.out.steps
      have hw8 := ST.out.way
      have CO := hid (pl_sopen w1 wr B2 g d g2 dn dc s s 3 PL.out (by decide) (by rw [ST.out.len]; omega) L1.out (by omega) (by omega))
      have HTW := hid (opens_twice (z := 3) ST.out.q (by rw [ST.out.len]; omega) (by decide))
      clear hs8 hw8
      rcases HTW.out with ⟨s1, e0, ho, he0, hs1⟩ | ⟨s1, c, ho, hs1, hw1, hd1, hcs, hce, h2nd⟩
      · have HO := hid (show openS s 3 = (s1, none, e0) from ho)
        rw [HO.out] at CO
        unfold PlO at CO
        dsimp only at CO
        have he0' : ((e0 : Int) != 0) = true := by rw [bne_iff_ne]; omega
        clear ho he0 hs1 HTW
        go_upto_region 14 with (go_at_call 29; go_must (refine CO.out.mono ?_; rintro e w6 ⟨rfl, h6⟩; have P6 := hid h6; clear h6; dsimp only))
        obtain ⟨wv6, F6, wv26, hi1, hi2, hi3, _⟩ := P6.out.ex
        have CR := hid (ropen_calls w6 F6 B2 g2 dn dc wv26 s 3 hi2 (by decide) (by rw [ST.out.len]; omega) (by have := ST.out.steps; omega) (by have := ST.out.way; omega))
        have HGE := hid (show ∀ k ∈ [g2, dn], w1.heap.size ≤ k from fun k hk => by
          have h1 := (hi2.lt g2 hi2.inF.1).1
          have h2 := (hi2.lt dn hi2.inF.2.1).1
          have h3 := P6.out.b2
          simp only [List.mem_cons, List.not_mem_nil, or_false] at hk
          rcases hk with rfl | rfl <;> omega)
        rw [HO.out] at CR
        clear hi1 hi2 hi3
        go_upto_region 15 with (go_at_call 30; go_must (refine CR.out.mono ?_; rintro e w7 ht; obtain ⟨hc7, wv7, F7, _, _, rfl⟩ := ht; have C7 := hid (P6.out.bel.trans (hc7.below P6.out.bel.size HGE.out)); clear hc7; dsimp only))
        go_wp2_with (go_at_call 31; go_must (refine (nilalike7_calls w7).mono ?_; rintro e w8 ⟨rfl, hb8⟩; have B8 := hid hb8; clear hb8; dsimp only))
        go_ret
        have h7 := B1.out.trans (C7.out.mono B1.out.size)
        exact ⟨rfl, h7.trans (B8.out.mono h7.size)⟩
      · have HO := hid (show openS s 3 = (s1, some c, 0) from ho)
        have H2 := hid h2nd
        have HCS := hid hcs
        have HCE := hid hce
        have HS1 := hid (And.intro hs1 (And.intro hw1 hd1))
        rw [HO.out] at CO
        unfold PlO at CO
        dsimp only at CO
        clear ho hs1 hw1 hd1 hcs hce h2nd HTW
        go_upto_region 14 with (go_at_call 29; go_must (refine CO.out.mono ?_; rintro e w6 ⟨q, rfl, h6⟩; have P6 := hid h6; clear h6; dsimp only))
        obtain ⟨wv6, F6, wv26, Q6, sv6, rv6, ts6, hat, hrf, hFd, hbl, hb2⟩ := P6.out
        have CR := hid (ropen_calls w6 F6 B2 g2 dn dc wv26 s 3 hrf (by decide) (by rw [ST.out.len]; omega) (by have := ST.out.steps; omega) (by have := ST.out.way; omega))
        rw [HO.out] at CR
        have MKL := hid fun (W : World) (hc : Chg [g2, dn] w6 W) => (show LSc w1 (fun _ => False) g q c W from by
          have hin : ∀ k ∈ [g2, dn], F6 k := fun k hk => by
            simp only [List.mem_cons, List.not_mem_nil, or_false] at hk
            rcases hk with rfl | rfl
            · exact hrf.inF.1
            · exact hrf.inF.2.1
          exact ⟨hbl.trans (hc.below hbl.size fun k hk => by have := (hrf.lt k (hin k hk)).1; omega), fun _ h => h.elim, d, wv6, Q6, sv6, rv6, ts6, hat.chg hc fun k hk => hFd k (hin k hk), fun _ h => h.elim⟩)
        clear hat hrf hFd hbl hb2
        go_upto_region 15 with (go_at_call 30; go_must (refine CR.out.mono ?_; rintro e w7 ht; obtain ⟨hc7, wv7, F7, _, _, ht7⟩ := ht; obtain ⟨q2, sv, rv, ts, rfl, hx⟩ := ht7; have L7 := hid (MKL.out w7 hc7); have X7 := hid hx; clear hc7 hx; dsimp only))
        go_upto_region 17 with (go_at_call 31; go_must (refine (alike7_calls w1 w7 _ g q c _ g2 q2 sv rv ts L7.out X7.out).mono ?_; rintro e w8 ⟨rfl, hb8⟩; have L8 := hid (L7.out.below hb8); clear hb8; dsimp only))
        have CO2 := hid (lsc_reopen w1 w8 _ g q c 3 L8.out (by decide) (by rw [HCS.out, HS1.out.2.2, ST.out.len]; omega) L1.out (by rw [HCS.out]; have := HS1.out.1; have := ST.out.steps; omega) (by rw [HCS.out, HS1.out.2.1]; decide))
        rw [HCS.out] at CO2
        have hce' : ¬ (4294967296 ≤ (c.root.epoch : Int)) := by have := HCE.out; omega
        rcases H2.out with h2 | ⟨s2, c2, h2, e1, e2, e3, e4, e5, e6⟩
        · have H2e := hid (show openS s1 3 = (s1, none, 8) from h2)
          rw [H2e.out] at CO2
          dsimp only at CO2
          clear h2 H2
          go_upto_region 20 with (go_at_call 29; go_must (refine CO2.out.mono ?_; rintro e w9 ⟨hb9, ⟨Q9, sv9, rv9, ts9, hi9⟩, rfl⟩; have B9 := hid hb9; have I9 := hid hi9; clear hb9 hi9; dsimp only))
          have CE := hid (epoch_calls w9 w1.heap.size g q Q9 sv9 rv9 ts9 c I9.out)
          by_cases hmx : c.root.epoch = 4294967295
          · have hmx' : ((c.root.epoch : Int) == 4294967295) = true := by rw [hmx]; rfl
            clear hmx
            go_wp2_with (go_at_call 32; go_must (refine CE.out.mono ?_; rintro e w10 ⟨rfl, rfl⟩; dsimp only))
            go_ret
            exact ⟨rfl, B1.out.trans (B9.out.mono B1.out.size)⟩
          · have hmx' : ((c.root.epoch : Int) == 4294967295) = false := by rw [beq_eq_false_iff_ne]; omega
            clear hmx
            go_wp2_with (go_at_call 32; go_must (refine CE.out.mono ?_; rintro e w10 ⟨rfl, rfl⟩; dsimp only))
            go_ret
            exact ⟨rfl, B1.out.trans (B9.out.mono B1.out.size)⟩
        · have H2e := hid (show openS s1 3 = (s2, some c2, 0) from h2)
          rw [H2e.out] at CO2
          dsimp only at CO2
          have E1 := hid e1
          have E2 := hid e2
          have E3 := hid e3
          have E4 := hid e4
          have E5 := hid e5
          have hce2 : ¬ (4294967295 ≤ (c.root.epoch : Int)) := by omega
          clear h2 H2 e1 e2 e3 e4 e5 e6 hce'
          go_upto_region 20 with (go_at_call 29; go_must (refine CO2.out.mono ?_; rintro e w9 ⟨hb9, ⟨Q9, sv9, rv9, ts9, hi9⟩, q3, rfl, hl9⟩; have B9 := hid hb9; have I9 := hid hi9; have D9 := hid hl9; clear hb9 hi9 hl9; dsimp only))
          have I9b := hid fun (W : World) (hW : Below w9.heap.size w9 W) => I9.out.below hW
          have OK9 := hid I9.out.ok
          obtain ⟨N, hN⟩ : ∃ N, c.snap.length = N := ⟨_, rfl⟩
          have HN := hid hN
          clear hN
          have OK := OK9.out
          have hzz : (c.size : Int) ≤ 4096 := by have := OK.size; omega
          have hnn : (c.next : Int) ≤ (c.size : Int) := by have := OK.next; omega
          have CSd := hid (show Calls Tryd.prog 34 #[.pointer (some ⟨q3, 0, none⟩)] w9 (RetB w9.heap.size w9 c.snap) from by
            have h := lsc_snap w1 w9 _ g q3 c2 D9.out
            rw [E1.out] at h
            exact h)
          have CEd := hid fun (W : World) (hW : Below w9.heap.size w9 W) => (show Calls Tryd.prog 32 #[.pointer (some ⟨q3, 0, none⟩)] W fun e w' => e = .returned (.int .u32 ((c.root.epoch : Int) + 1)) ∧ W = w' from by
            have h := lsc_epoch w1 W _ g q3 c2 (D9.out.below hW)
            rw [E5.out] at h
            exact h)
          have CEc := hid fun (W : World) (hW : Below w9.heap.size w9 W) => epoch_calls W w1.heap.size g q Q9 sv9 rv9 ts9 c (I9b.out W hW)
          have CLd := hid fun (W : World) (hW : Below w9.heap.size w9 W) => (show Calls Tryd.prog 37 #[.pointer (some ⟨q3, 0, none⟩)] W fun e w' => e = .returned (.int .i64 ((c.size - c.next : Nat) : Int)) ∧ Below W.heap.size W w' from by
            have h := lsc_left w1 W _ g q3 c2 (D9.out.below hW)
            rw [E3.out, E4.out] at h
            exact h)
          have CLc := hid fun (W : World) (hW : Below w9.heap.size w9 W) => leftS_calls W w1.heap.size g q Q9 sv9 rv9 ts9 c (I9b.out W hW)
          obtain ⟨lf, hlf⟩ : ∃ lf, c.size - c.next = lf := ⟨_, rfl⟩
          rw [hlf] at CLd CLc
          clear OK hlf
          go_wp2_with (first
            | (go_at_call 34; have hx := B10.out; clear hx; go_must (refine (snap_calls w10 w1.heap.size g q Q9 sv9 rv9 ts9 c (I9b.out w10 B10.out)).mono ?_; rintro e w11 ⟨v11, rfl, ho11, hb11⟩; obtain ⟨a11, c11, rfl, hbs11, _⟩ := ho11.bs; rw [HN.out]; have B11 := hid (B10.out.trans (hb11.mono B10.out.size)); have CS1 := hid (show Calls Tryd.prog 33 #[.slice a10 N c10, .slice a11 N c11] w11 (fun e w' => e = .returned (.bool true) ∧ w11 = w') from (by have h := same_calls a10 a11 c10 c11 c.snap c.snap w11 (BS10.out.below hb11) hbs11; rw [HN.out, beq_self_eq_true] at h; exact h)); have CRd := hid (show Calls Tryd.prog 36 #[.pointer (some ⟨q3, 0, none⟩)] w11 (CopiesTo w11 c.recs) from (by have h := lsc_recs w1 w11 _ g q3 c2 (D9.out.below B11.out); rw [E2.out] at h; exact h)); clear ho11 hbs11 hb11; dsimp only))
            | (go_at_call 34; refine CSd.out.mono ?_; rintro e w10 ⟨v10, rfl, ho10, hb10⟩; obtain ⟨a10, c10, rfl, hbs10, _⟩ := ho10.bs; rw [HN.out]; have B10 := hid hb10; have BS10 := hid hbs10; clear ho10 hbs10 hb10; dsimp only)
            | (go_at_call 33; go_must (refine CS1.out.mono ?_; rintro e w11b ⟨rfl, rfl⟩; dsimp only))
            | (go_at_call 36; have hx := B12.out; clear hx; go_must (refine (recs_calls w12 w1.heap.size g q Q9 sv9 rv9 ts9 c (I9b.out w12 B12.out)).mono ?_; rintro e w13 ⟨tsb, bvb, rfl, hmb, htxb, hb13⟩; obtain ⟨a13, n13, c13, rfl, _, _, _⟩ := htxb.rb.cs; have B13 := hid (B12.out.trans (hb13.mono B12.out.size)); have CSM := hid (show Calls Tryd.prog 35 #[.slice a12 n12 c12, .slice a13 n13 c13] w13 (fun e w' => e = .returned (.bool true) ∧ Below w13.heap.size w13 w') from (by have h1 := (TX12.out.below hb13).bl; rw [M12.out] at h1; have h2 := htxb.bl; rw [hmb] at h2; exact (same7_calls w13 _ _ a12 n12 c12 _ a13 n13 c13 _ h1 h2 OK9.out.few OK9.out.few).mono fun e w' h => ⟨by rw [h.1]; simp, h.2⟩)); clear hmb htxb hb13; dsimp only))
            | (go_at_call 36; refine CRd.out.mono ?_; rintro e w12 ⟨tsa, bva, rfl, hma, htxa, hb12⟩; obtain ⟨a12, n12, c12, rfl, _, _, _⟩ := htxa.rb.cs; have B12 := hid (B11.out.trans (hb12.mono B11.out.size)); have M12 := hid hma; have TX12 := hid htxa; clear hma htxa hb12; dsimp only)
            | (go_at_call 35; go_must (refine CSM.out.mono ?_; rintro e w14 ⟨rfl, hb14⟩; have B14 := hid (B13.out.trans (hb14.mono B13.out.size)); clear hb14; dsimp only))
            | (go_at_call 32; have hx := E14.out; clear hx; go_must (refine (CEc.out w14 B14.out).mono ?_; rintro e w14c ⟨rfl, rfl⟩; dsimp only))
            | (go_at_call 32; refine (CEd.out w14 B14.out).mono ?_; rintro e w14b ⟨rfl, rfl⟩; have E14 := hid True.intro; dsimp only)
            | (go_at_call 37; have hx := B15.out; clear hx; go_must (refine (CLc.out w15 B15.out).mono ?_; rintro e w16 ⟨rfl, hb16⟩; have B16 := hid (B15.out.trans (hb16.mono B15.out.size)); clear hb16; dsimp only))
            | (go_at_call 37; refine (CLd.out w14 B14.out).mono ?_; rintro e w15 ⟨rfl, hb15⟩; have B15 := hid (B14.out.trans (hb15.mono B14.out.size)); clear hb15; dsimp only))
          go_ret
          have h9 := B1.out.trans (B9.out.mono B1.out.size)
          exact ⟨rfl, h9.trans (B16.out.mono h9.size)⟩
end Go.Proofs.YtoapibbbooongaaDoor
