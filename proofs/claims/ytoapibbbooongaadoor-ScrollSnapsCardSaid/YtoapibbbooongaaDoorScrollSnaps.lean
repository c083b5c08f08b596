/- ScrollSnaps: behind a snapshot just it is told, and what was added behind it; however often. -/
import Derived.Test.YtoapibbbooongaaDoorScrX
namespace Go.Proofs.YtoapibbbooongaaDoor
open Go.RowKit Go.Quad _root_.Quad _root_.Quad.Slab _root_.Quad.Ink

structure SnSt (i : Nat) (s : Sl) (r : RootD) (bs : List Bat) : Prop where
  dk : Dk s 20 r bs
  gen : r.gen ≤ i + 1
  turn : r.turn ≤ 2 * i + 2
  ep : r.epoch ≤ i + 1
  way : s.way = []
  len : s.done.length = 42
  steps : s.steps ≤ 100 * (i + 1)
structure SnIn (i j : Nat) (s : Sl) (r : RootD) (bs : List Bat) (p : Bytes) (want : List Bytes) : Prop where
  dk : Dk s 20 r bs
  gen : r.gen ≤ i + 2
  turn : r.turn ≤ 2 * i + 3
  ep : r.epoch ≤ i + 1
  way : s.way = []
  len : s.done.length = 42
  steps : s.steps ≤ 100 * (i + 1) + 20 + 10 * min j 5
  snap : ((bs.map Prod.snd).headD []).headD [] = p
  recs : ((bs.map Prod.snd).drop 1).flatten = want
  few : want.length ≤ min j 5
theorem sn_start : ∃ s s1 r bs, formatS (newL 42) 20 [] = (s, 0) ∧ (s.steps ≤ 50 ∧ s.way = [] ∧ s.done.length = 42) ∧ openS s 20 = (s1, some (scD s1 20 r bs), 0) ∧ SnSt 0 s1 r bs := by
  have p0 : partsL [[]] = 1 := partsL_one (Nat.le_trans (joinL_bound (N := 0) (by omega) _ (by simp)) (by simp))
  obtain ⟨_, s0, _, _, f0, d0, w0, l0, t0⟩ := dk_format (n := 42) (size := 20) (p := []) (by omega) (by omega) (by omega) (by simp) (by omega)
  obtain ⟨s1, o1, d1, w1, l1, t1⟩ := d0.scOpen (by simp) (by simp)
  exact ⟨s0, s1, _, _, f0, ⟨by omega, w0, l0⟩, o1, ⟨d1, Nat.le_refl _, Nat.le_refl _, Nat.le_refl _, w1, l1.trans l0, by omega⟩⟩
theorem sn_comp {i : Nat} {s : Sl} {r : RootD} {bs : List Bat} (h : SnSt i s r bs) (hi : i < 10) {p : Bytes} (hp : p.length ≤ 500) :
    ∃ s' bs', compS (scD s 20 r bs) p = (scD s' 20 (turnR r) bs', 0) ∧ SnIn i 0 s' (turnR r) bs' p [] := by
  have hj := joinL_bound (N := 500) (by omega) [p] (by simp [hp])
  have hpp : partsL [p] ≤ 5 := by unfold partsL npart; simp at hj; omega
  obtain ⟨s1, a1, d1, w1, l1, t1⟩ := h.dk.scComp (p := p) (by omega) (by omega) (by have := h.gen; omega) (by have := h.turn; omega)
  exact ⟨s1, _, a1, ⟨d1, by show r.gen + 1 ≤ _; have := h.gen; omega, by show r.turn + 1 ≤ _; have := h.turn; omega, h.ep, w1, l1.trans h.len, by have := h.steps; omega, rfl, rfl, Nat.zero_le _⟩⟩
theorem sn_add {i j : Nat} {s : Sl} {r : RootD} {bs : List Bat} {p : Bytes} {want : List Bytes} (h : SnIn i j s r bs p want) (hj : j < 5) {t : Bytes} (ht : t.length ≤ 100) :
    (∃ s' bs', addS (scD s 20 r bs) [t] = (scD s' 20 r bs', 0) ∧ SnIn i (j + 1) s' r bs' p (want ++ [t])) ∨ (addS (scD s 20 r bs) [t] = (scD s 20 r bs, 8) ∧ SnIn i (j + 1) s r bs p want) := by
  have hb := joinL_bound (N := 100) (by omega) [t] (by simp [ht])
  have hpp : partsL [t] ≤ 2 := by unfold partsL npart; simp at hb; omega
  have hst := h.steps
  have hfw := h.few
  have hln := h.len
  by_cases hf : lenB bs + partsL [t] ≤ 20
  · obtain ⟨s2, a2, d2, w2, l2, t2⟩ := h.dk.scAdd (l := [t]) (by simp) (by simp; omega) hf
    refine .inl ⟨s2, _, a2, ⟨d2, h.gen, h.turn, h.ep, w2, by omega, by omega, ?_, ?_, by rw [List.length_append, List.length_singleton]; omega⟩⟩
    · obtain ⟨e, p', bs', e1⟩ := h.dk.first
      have hf := h.snap
      rw [e1] at hf ⊢
      exact hf
    · obtain ⟨e, p', bs', e1⟩ := h.dk.first
      have ha := h.recs
      rw [e1] at ha ⊢
      simp only [List.map_cons, List.drop_succ_cons, List.drop_zero] at ha
      simp [ha]
  · have := h.dk.fit
    exact .inr ⟨h.dk.scFull (by simp) (by omega), ⟨h.dk, h.gen, h.turn, h.ep, h.way, h.len, by omega, h.snap, h.recs, by omega⟩⟩
theorem sn_skip {i j : Nat} {s : Sl} {r : RootD} {bs : List Bat} {p : Bytes} {want : List Bytes} (h : SnIn i j s r bs p want) : SnIn i (j + 1) s r bs p want :=
  ⟨h.dk, h.gen, h.turn, h.ep, h.way, h.len, by have := h.steps; omega, h.snap, h.recs, by have := h.few; omega⟩
theorem sn_open {i j : Nat} {s : Sl} {r : RootD} {bs : List Bat} {p : Bytes} {want : List Bytes} (h : SnIn i j s r bs p want) (hi : i < 10) :
    ∃ s', openS s 20 = (s', some (scD s' 20 (nextR r) bs), 0) ∧ SnSt (i + 1) s' (nextR r) bs := by
  obtain ⟨s1, o1, d1, w1, l1, t1⟩ := h.dk.scOpen (by have := h.ep; omega) (by have := h.turn; omega)
  exact ⟨s1, o1, ⟨d1, h.gen, by show r.turn + 1 ≤ _; have := h.turn; omega, by show r.epoch + 1 ≤ _; have := h.ep; omega, w1, l1.trans h.len, by have := h.steps; omega⟩⟩
def SnRel (w1 : World) (g m : Nat) (cv iv : Value) (wr : World) : Prop :=
  ∃ (i : Nat) (s : Sl) (r : RootD) (bs : List Bat) (q : Nat), iv = .int .i64 (i : Int) ∧ i ≤ m ∧ i ≤ 10 ∧ cv = .pointer (some ⟨q, 0, none⟩) ∧ LSc w1 (fun _ => False) g q (scD s 20 r bs) wr ∧ SnSt i s r bs
def SnIRel (w w1 : World) (g q i : Nat) (r : RootD) (p : Bytes) (m : Nat) (wv jv : Value) (wr : World) : Prop :=
  ∃ (j : Nat) (s : Sl) (bs : List Bat) (want : List Bytes) (ts : List TS), jv = .int .i64 (j : Int) ∧ j ≤ m ∧ ts.map TS.p = want ∧ WantR w w1 wr ts wv ∧ LSc w1 (OwnX wv) g q (scD s 20 r bs) wr ∧ SnIn i j s r bs p want
def SnTo (w : World) (e : Ending) (w' : World) : Prop := e = .returned (.bool true) ∧ Below w.heap.size w w'
set_option maxRecDepth 100000 in
set_option maxHeartbeats 20000000 in
theorem scrollSnaps_walk (v0 v1 : Value) (w : World) (h0 : RV Tryd.prog w 34 v0) (h1 : RV Tryd.prog w 34 v1) (hq : Laid w) :
    Calls Tryd.prog 10 #[v0, v1] w (SnTo w) := by
  obtain ⟨ad, cp, L, rfl, hL⟩ := rvbl_open h0
  obtain ⟨ad2, cp2, L2, rfl, hL2⟩ := rvbl_open h1
  have HQ := hid hq
  have HL := hid hL
  have HL2 := hid hL2
  have hm := bl_max hL
  have hm2 := bl_max hL2
  obtain ⟨s0, s1, r1, b1, hf0, hs0, ho1, he1⟩ := sn_start
  have HF0 := hid hf0
  have HS0 := hid hs0
  have HE1 := hid he1
  clear h0 h1 hq hL hL2 hf0 hs0 he1
  go_enter Tryd.func10, Tryd.ntmps10
  go_upto_region 3 with (go_at_call 28; go_must (refine (sawake_calls w HQ.out).mono ?_; rintro e w1 ⟨rfl, hb1⟩; have B1 := hid hb1; clear hb1; dsimp only))
  have L1 := hid (HQ.out.below B1.out HQ.out.1)
  go_upto_region 4 with (go_at_call 12; go_must (refine (sa_new w1 42 (by decide)).mono ?_; rintro e w2 ⟨g, rfl, h1⟩; have S1 := hid (LSl.of h1); clear h1; dsimp only))
  have CFm := hid (lsl_format w1 w2 (fun _ => False) g (newL 42) 20 none 0 0 [] S1.out (by decide) (by simp [newL]) (BS.nil _) rfl (by simp) (by omega) L1.out (by show 0 + 6000 < 1000000; omega) (by show 0 + 6000 < 1000000; omega))
  rw [HF0.out] at CFm
  dsimp only at CFm
  go_upto_region 5 with (go_at_call 38; go_must (refine CFm.out.mono ?_; rintro e w3 ⟨rfl, h2, _⟩; have S2 := hid h2; clear h2; dsimp only))
  go_upto_region 6 with (go_at_call 29; go_must (refine (lsl_open w1 w3 (fun _ => False) g s0 20 S2.out (by decide) (by have := HS0.out.2.2; omega) L1.out (by have := HS0.out.1; omega) (by rw [HS0.out.2.1]; decide) s1 _ ho1).mono ?_; rintro e w4 ⟨q, rfl, h3, _⟩; have S3 := hid h3; clear h3; dsimp only))
  have R0 := hid (show SnRel w1 g L.length (.pointer (some ⟨q, 0, none⟩)) (.int .i64 0) w4 from ⟨0, s1, r1, b1, q, rfl, Nat.zero_le _, by omega, rfl, S3.out, HE1.out⟩)
  clear CFm S1 S2 S3 ho1
  go_wp2_with fail
  go_loopw [7, 9, 10, 11, 12, 13, 14, 15, 33, 51, 52, 53] (fun cv _ _ _ _ _ _ _ iv _ _ _ wr => SnRel w1 g L.length cv iv wr) (fun _ _ _ _ _ _ _ _ iv _ _ _ _ => L.length - (intOf iv).toNat)
  case atStart => exact R0.out
  case round =>
    clear R0
    obtain ⟨i, s, r, bs, q, rfl, hil, hi10, rfl, hls, hst⟩ := hrel
    have SC := hid hls
    have ST := hid hst
    have bwr := hid (B1.out.trans (hls.1.mono B1.out.size))
    clear hls hst
    by_cases hlt : i < L.length
    case neg =>
      have hlt' : ¬ ((i : Int) < (L.length : Int)) := by omega
      go_wp2_with fail
      go_ret
      exact ⟨rfl, bwr.out⟩
    have hlt' : (i : Int) < (L.length : Int) := by omega
    obtain ⟨b, off, rfl, _, v, hcell, a4, c4, rfl, hbs, _⟩ := (HL.out.below bwr.out).at hlt
    have hbs0 : BS w a4 c4 (L.getD i []) := by
      obtain ⟨b', off', e', _, v', hcell', a5, c5, rfl, hbs', _⟩ := HL.out.at hlt
      cases e'
      have h2 := cell_later bwr.out hcell'
      rw [hcell] at h2
      cases h2
      exact hbs'
    obtain ⟨tt, htt⟩ : ∃ tt, L.getD i [] = tt := ⟨_, rfl⟩
    rw [htt] at hcell hbs hbs0
    have BS0 := hid hbs0
    obtain ⟨n4, hn4⟩ : ∃ n4, tt.length = n4 := ⟨_, rfl⟩
    have HN4 := hid hn4
    rw [hn4] at hcell
    have hfit := hbs.fit'
    rw [hn4] at hfit
    clear hbs hbs0 htt hn4
    by_cases h10 : i = 10
    · have h10' : (10 : Int) ≤ (i : Int) := by omega
      clear h10
      go_wp2_with fail
      go_ret
      exact ⟨rfl, bwr.out⟩
    have h10' : ¬ ((10 : Int) ≤ (i : Int)) := by omega
    have hi' : i < 10 := by omega
    obtain ⟨m4, hm4⟩ : ∃ m4, min n4 500 = m4 := ⟨_, rfl⟩
    have hmin : (if (500 : Int) < (n4 : Int) then (500 : Int) else (n4 : Int)) = (m4 : Int) := by split <;> omega
    have hm3 : (m4 : Int) ≤ 500 := by omega
    have hmc : (m4 : Int) ≤ (c4 : Int) := by omega
    have hl4 : (tt.take m4).length = m4 := by rw [List.length_take]; have := HN4.out; omega
    have ht4 : BS w a4 c4 (tt.take m4) := by have := CS.take BS0.out m4; unfold BS; rw [List.map_take]; exact this
    obtain ⟨P, hP⟩ : ∃ P, tt.take m4 = P := ⟨_, rfl⟩
    rw [hP] at hl4 ht4
    have HP4 := hid hl4
    have TP4 := hid ht4
    have T4 := hid (ht4.below bwr.out)
    clear hm4 hl4 ht4 hP
    obtain ⟨s1, bs1, hc1, hin1⟩ := sn_comp ST.out hi' (p := P) (by have := HP4.out; omega)
    have HIN1 := hid hin1
    clear hin1
    go_upto_region 13 with fail
    go_upto_region 14 with (first
      | (at_builtin; go_must (refine wpList_append_lit0 (.tmp 46) (.tmp 47) _ rfl rfl 5 info_u8 under_bytes rfl T4.out _ HP4.out rfl (by rw [HP4.out]; omega) ?_; intro v5 w5 ho5 hb5; obtain ⟨a5, n5, p5, rfl, hn5, hbs5, hof5⟩ := ob_n ho5; have B5 := hid hb5; have CC := hid (show Calls Tryd.prog 42 #[.pointer (some ⟨q, 0, none⟩), .slice a5 n5 p5] w5 (fun e w' => e = .returned (.int .i64 0) ∧ LSc w1 (fun _ => False) g q (scD s1 20 (turnR r) bs1) w') from (by have S5 := SC.out.more (X' := fun k => wr.heap.size ≤ k ∧ k < w5.heap.size) hb5 (fun k h => .inr h); have h := lsc_comp w1 w5 _ g q _ a5 n5 p5 P S5 hbs5 hn5 (fun x hx => ⟨(hof5 x hx).2.2.1, (hof5 x hx).2.2.2⟩) (by have := HP4.out; omega) L1.out (by have := ST.out.steps; show s.steps + _ < _; omega) (by show s.way.length + _ < _; rw [ST.out.way]; decide); rw [hc1] at h; exact h.mono fun e w' h => ⟨h.1, h.2.1.less (fun _ h => h.elim)⟩)); clear ho5 hb5 hbs5 hof5 hn5))
      | (go_at_call 42; go_must (refine CC.out.mono ?_; rintro e w6 ⟨rfl, h6⟩; have S6 := hid h6; clear h6; dsimp only)))
    have R1 := hid (show SnIRel w w1 g q i (turnR r) P L2.length (.slice none 0 0) (.int .i64 0) w6 from ⟨0, s1, bs1, [], [], rfl, Nat.zero_le _, rfl, ⟨RO.nil _ _ _ _ _, by simp⟩, S6.out.less (fun k hk => by simp [OwnX, Value.ownBlock] at hk), HIN1.out⟩)
    obtain ⟨wo, rfl⟩ : ∃ wo : World, wo = wr := ⟨_, rfl⟩
    clear hc1 hmin hcell
    go_wp2_with fail
    go_loopw [11, 12, 13, 53] (fun wv _ _ jv wr => SnIRel w w1 g q i (turnR r) P L2.length wv jv wr) (fun _ _ _ jv _ => L2.length - (intOf jv).toNat)
    case atStart => exact R1.out
    case round =>
      clear R1
      obtain ⟨j, s2, bs2, want, ts, rfl, hj, hts, hwr, hls, hin⟩ := hrel
      have HTS := hid hts
      have WR := hid hwr
      have SC2 := hid hls
      have IN2 := hid hin
      obtain ⟨va, vn, vc, rfl, _, _, _⟩ := hwr.row.cs
      have bwi := hid (B1.out.trans (hls.1.mono B1.out.size))
      have HLN := hid (show ts.length ≤ 5 from by have h := congrArg List.length hts; rw [List.length_map] at h; have := hin.few; omega)
      clear hts hwr hls hin
      by_cases hjl : j < L2.length
      · have hjl' : (j : Int) < (L2.length : Int) := by omega
        obtain ⟨b2, off2, rfl, _, v2, hcell2, a7, c7, rfl, hbs7, _⟩ := (HL2.out.below bwi.out).at hjl
        have hbs0 : BS w a7 c7 (L2.getD j []) := by
          obtain ⟨b', off', e', _, v', hcell', a8, c8, rfl, hbs', _⟩ := HL2.out.at hjl
          cases e'
          have h2 := cell_later bwi.out hcell'
          rw [hcell2] at h2
          cases h2
          exact hbs'
        obtain ⟨t7, ht7⟩ : ∃ t7, L2.getD j [] = t7 := ⟨_, rfl⟩
        rw [ht7] at hcell2 hbs7 hbs0
        have BS07 := hid hbs0
        obtain ⟨n7, hn7⟩ : ∃ n7, t7.length = n7 := ⟨_, rfl⟩
        have HN7 := hid hn7
        rw [hn7] at hcell2
        have hfit7 := hbs7.fit'
        rw [hn7] at hfit7
        clear hbs7 hbs0 ht7 hn7
        by_cases hj5 : j < 5
        · have hj5' : (j : Int) < 5 := by omega
          obtain ⟨m7, hm7⟩ : ∃ m7, min n7 100 = m7 := ⟨_, rfl⟩
          have hmin7 : (if (100 : Int) < (n7 : Int) then (100 : Int) else (n7 : Int)) = (m7 : Int) := by split <;> omega
          have hm73 : (m7 : Int) ≤ 100 := by omega
          have hmc7 : (m7 : Int) ≤ (c7 : Int) := by omega
          have hl7 : (t7.take m7).length = m7 := by rw [List.length_take]; have := HN7.out; omega
          have ht7 : BS w a7 c7 (t7.take m7) := by have := CS.take BS07.out m7; unfold BS; rw [List.map_take]; exact this
          obtain ⟨P7, hP7⟩ : ∃ P, t7.take m7 = P := ⟨_, rfl⟩
          rw [hP7] at hl7 ht7
          have HP7 := hid hl7
          have TP7 := hid ht7
          have T7 := hid (ht7.below bwi.out)
          clear hm7 hl7 ht7 hP7
          have HADD := hid (sn_add IN2.out hj5 (t := P7) (by have := HP7.out; omega))
          have CAG := hid fun (W5 : World) (a5 : Option Addr) (n5 p5 : Nat) (hb5 : Below wr.heap.size wr W5) (hn5 : P7.length = n5) (hbs5 : BS W5 a5 p5 P7) (hof5 : ∀ x, a5 = some x → wr.heap.size ≤ x.block ∧ x.block < W5.heap.size) => (show Calls Tryd.prog 40 #[.pointer (some ⟨q, 0, none⟩), .slice (some ⟨W5.heap.size, 0, none⟩) 1 1] (W5.alloc (.cells #[.slice a5 n5 p5] 33)) (fun e w' => e = .returned (.int .i64 ((addS (scD s2 20 (turnR r) bs2) [P7]).2 : Int)) ∧ LSc w1 (OwnX (.slice va vn vc)) g q (addS (scD s2 20 (turnR r) bs2) [P7]).1 w' ∧ WantR w w1 w' ts (.slice va vn vc)) from by
            have hb := bl_lits (w := W5) (ts := [⟨a5, p5, P7⟩]) (Q := fun k => wr.heap.size ≤ k ∧ k < W5.heap.size) (n := 1) (fun t ht => by rw [List.mem_singleton] at ht; subst ht; exact ⟨hbs5, hof5⟩) rfl (by decide)
            rw [show ([⟨a5, p5, P7⟩] : List TS).flatMap tsV = [.slice a5 n5 p5] from by rw [List.flatMap_singleton]; show [Value.slice a5 P7.length p5] = _; rw [hn5]] at hb
            have hla := hb5.trans ((below_alloc W5 (.cells #[.slice a5 n5 p5] 33)).mono hb5.size)
            have hz : (W5.alloc (.cells #[.slice a5 n5 p5] 33)).heap.size = W5.heap.size + 1 := by simp
            have hb : BL (W5.alloc (.cells #[.slice a5 n5 p5] 33)) (fun k => (wr.heap.size ≤ k ∧ k < W5.heap.size) ∨ k = W5.heap.size) (.slice (some ⟨W5.heap.size, 0, none⟩) 1 1) [P7] := hb
            have hs5 := hb5.size
            generalize (W5.alloc (.cells #[.slice a5 n5 p5] 33)) = W at hb hla hz ⊢
            have S5 := SC2.out.more (X' := fun k => OwnX (.slice va vn vc) k ∨ (wr.heap.size ≤ k ∧ k < W.heap.size)) hla (fun k h => h)
            have h := lsc_add w1 W _ g q _ _ 1 1 [P7] S5 (hb.wider fun k hk => .inr (by omega)) ⟨by simp; have := HP7.out; omega, Nat.le_trans (joinL_bound (N := 100) (by omega) [P7] (by simp; have := HP7.out; omega)) (by simp), by simp⟩ (by show ((bs2.map Prod.snd).drop 1).flatten.length + 1 ≤ _; rw [IN2.out.recs]; have := IN2.out.few; omega) L1.out (by have := IN2.out.steps; show s2.steps + _ < _; omega) (by show s2.way.length + _ < _; rw [IN2.out.way]; decide)
            exact h.mono fun e w' h => ⟨h.1, h.2.1.less (fun _ h => .inl h), h.2.2.want (WR.out.below hla) (fun _ h => .inl h)⟩)
          rcases HADD.out with ⟨s3, bs3, ha3, hin3⟩ | ⟨ha3, hin3⟩
          · rw [ha3] at CAG
            dsimp only at CAG
            have IN3 := hid hin3
            clear ha3 hin3 HADD
            go_upto_region 20 with (first
              | (at_builtin; go_must (refine wpList_append_lit0 (.tmp 62) (.tmp 67) _ rfl rfl 5 info_u8 under_bytes rfl T7.out _ HP7.out rfl (by rw [HP7.out]; omega) ?_; intro v5 w5 ho5 hb5; obtain ⟨a5, n5, p5, rfl, hn5, hbs5, hof5⟩ := ob_n ho5; have CA := hid (CAG.out w5 a5 n5 p5 hb5 hn5 hbs5 (fun x hx => ⟨(hof5 x hx).2.2.1, (hof5 x hx).2.2.2⟩)); clear ho5 hb5 hbs5 hof5 hn5))
              | (go_at_call 40; go_must (refine CA.out.mono ?_; rintro e w8 ⟨rfl, h8, hw8⟩; have S8 := hid h8; have W8 := hid hw8; clear h8 hw8; dsimp only)))
            have CSL := hid (show CS (w8.alloc (.cells #[.slice a7 m7 c7] 33)) (some ⟨w8.heap.size, 0, none⟩) 1 1 (([⟨a7, c7, P7⟩] : List TS).flatMap tsV) from by
              rw [show ([⟨a7, c7, P7⟩] : List TS).flatMap tsV = [.slice a7 m7 c7] from by rw [List.flatMap_singleton]; show [Value.slice a7 P7.length c7] = _; rw [HP7.out]]
              exact cs_lit w8 [.slice a7 m7 c7] 33 1 1 rfl (by decide))
            have SL8 := hid (S8.out.below (below_alloc w8 (.cells #[.slice a7 m7 c7] 33)))
            have WL8 := hid (W8.out.below (below_alloc w8 (.cells #[.slice a7 m7 c7] 33)))
            go_wp2_with (at_builtin; go_must (refine wpList_append_ro tsV_length tsV_one (by decide) (.tmp 73) (.tmp 79) _ rfl rfl w1.heap.size 33 _ 24 info_slb rfl under_slbs _ ts WL8.out.row rfl (l' := [⟨a7, c7, P7⟩]) rfl CSL.out (Nat.le_refl _) rfl (by have h1 := HLN.out; simp; omega) SL8.out.1.size ?_; intro v10 w10 ho10 hb10 hg10 hv10; obtain ⟨a10, n10, c10, rfl, _, _, _⟩ := ho10.cs; have O10 := hid ho10; have G10 := hid hg10; have V10 := hid hv10; clear ho10 hb10 hg10 hv10))
            have hgr := SL8.out.grow (chg_grown G10.out) (X' := OwnX (.slice a10 n10 c10)) (fun k hk => by simpa [OwnX] using hk) (fun k hk => by
              rcases V10.out with h | h
              · exact .inl (by unfold OwnX at hk ⊢; rw [← h]; exact hk)
              · unfold OwnX at hk
                have h2 := O10.out.ownBlock k hk
                rw [h] at hk
                simp only [Option.some.injEq] at hk
                exact .inr ⟨by omega, h2.2⟩)
            have R : SnIRel w w1 g q i (turnR r) P L2.length (.slice a10 n10 c10) (.int .i64 ((j : Int) + 1)) w10 := ⟨j + 1, s3, bs3, _, ts ++ [⟨a7, c7, P7⟩], rfl, hjl, by rw [List.map_append, HTS.out]; rfl, ⟨O10.out, fun t ht => by
              rcases List.mem_append.1 ht with ht | ht
              · exact WR.out.tx t ht
              · rw [List.mem_singleton] at ht; subst ht; exact TP7.out⟩, hgr, IN3.out⟩
            have HR := hid R
            clear R hgr
            refine ⟨?_, by simp only [intOf]; omega⟩
            first | exact HR.out | ((repeat apply Exists.intro); refine ⟨HR.out, ?_⟩; and_intros <;> rfl)
          · rw [ha3] at CAG
            dsimp only at CAG
            have IN3 := hid hin3
            clear ha3 hin3 HADD
            go_wp2_with (first
              | (at_builtin; go_must (refine wpList_append_lit0 (.tmp 62) (.tmp 67) _ rfl rfl 5 info_u8 under_bytes rfl T7.out _ HP7.out rfl (by rw [HP7.out]; omega) ?_; intro v5 w5 ho5 hb5; obtain ⟨a5, n5, p5, rfl, hn5, hbs5, hof5⟩ := ob_n ho5; have CA := hid (CAG.out w5 a5 n5 p5 hb5 hn5 hbs5 (fun x hx => ⟨(hof5 x hx).2.2.1, (hof5 x hx).2.2.2⟩)); clear ho5 hb5 hbs5 hof5 hn5))
              | (go_at_call 40; go_must (refine CA.out.mono ?_; rintro e w8 ⟨rfl, h8, hw8⟩; have S8 := hid h8; have W8 := hid hw8; clear h8 hw8; dsimp only)))
            have R : SnIRel w w1 g q i (turnR r) P L2.length (.slice va vn vc) (.int .i64 ((j : Int) + 1)) w8 := ⟨j + 1, s2, bs2, _, ts, rfl, hjl, HTS.out, W8.out, S8.out, IN3.out⟩
            have HR := hid R
            clear R
            refine ⟨?_, by simp only [intOf]; omega⟩
            first | exact HR.out | ((repeat apply Exists.intro); refine ⟨HR.out, ?_⟩; and_intros <;> rfl)
        · have hj5' : ¬ ((j : Int) < 5) := by omega
          have R : SnIRel w w1 g q i (turnR r) P L2.length (.slice va vn vc) (.int .i64 ((j : Int) + 1)) wr := ⟨j + 1, s2, bs2, _, ts, rfl, hjl, HTS.out, WR.out, SC2.out, sn_skip IN2.out⟩
          have HR := hid R
          clear R
          go_wp2_with fail
          refine ⟨?_, by simp only [intOf]; omega⟩
          first | exact HR.out | ((repeat apply Exists.intro); refine ⟨HR.out, ?_⟩; and_intros <;> rfl)
      · have hjl' : ¬ ((j : Int) < (L2.length : Int)) := by omega
        obtain ⟨s4, ho4, hst4⟩ := sn_open IN2.out hi'
        have ST4 := hid hst4
        have CO := hid (lsl_open w1 wr _ g s2 20 SC2.out.sl (by decide) (by have := IN2.out.len; omega) L1.out (by have := IN2.out.steps; omega) (by rw [IN2.out.way]; decide) s4 _ ho4)
        have HRC := hid (show (scD s4 20 (nextR (turnR r)) bs2).recs = ts.map TS.p from IN2.out.recs.trans HTS.out.symm)
        have HSN := hid (show (scD s4 20 (nextR (turnR r)) bs2).snap = P from IN2.out.snap)
        clear ho4 hst4
        go_upto_region 23 with (go_at_call 29; go_must (refine CO.out.mono ?_; rintro e w11 ⟨q2, rfl, h3, hk3⟩; have S11 := hid h3; have W11 := hid (hk3.want WR.out (fun _ h => h)); clear h3 hk3; dsimp only))
        have CSN := hid (lsc_snap w1 w11 _ g q2 _ S11.out)
        rw [HSN.out] at CSN
        have BW11 := hid (B1.out.trans (S11.out.1.mono B1.out.size))
        go_wp2_with (first
          | (go_at_call 34; go_must (refine CSN.out.mono ?_; rintro e w12 ⟨v12, rfl, ho12, hb12⟩; obtain ⟨a12, c12, rfl, hbs12, _⟩ := ho12.bs; rw [HP4.out]; have B12 := hid hb12; have CS1 := hid (show Calls Tryd.prog 33 #[.slice a12 m4 c12, .slice a4 m4 c4] w12 (fun e w' => e = .returned (.bool true) ∧ w12 = w') from (by have h := same_calls a12 a4 c12 c4 P P w12 hbs12 (TP4.out.below (BW11.out.trans (hb12.mono BW11.out.size))); rw [HP4.out, beq_self_eq_true] at h; exact h)); have CR := hid (lsc_recs w1 w12 _ g q2 _ (S11.out.below hb12)); rw [HRC.out] at CR; clear ho12 hbs12 hb12; dsimp only))
          | (go_at_call 33; go_must (refine CS1.out.mono ?_; rintro e w13 ⟨rfl, rfl⟩; dsimp only))
          | (go_at_call 36; go_must (refine CR.out.mono ?_; rintro e w14 ⟨ts4, bv4, rfl, hm4, htx4, hb4⟩; obtain ⟨a14, n14, c14, rfl, _, _, _⟩ := htx4.rb.cs; have B14 := hid (B12.out.trans (hb4.mono B12.out.size)); have CSM := hid (show Calls Tryd.prog 35 #[.slice a14 n14 c14, .slice va vn vc] w14 (fun e w' => e = .returned (.bool true) ∧ Below w14.heap.size w14 w') from (by have h1 := htx4.bl; rw [hm4] at h1; refine (same7_calls w14 _ _ a14 n14 c14 _ va vn vc _ h1 ((W11.out.below B14.out).bl (BW11.out.trans (B14.out.mono BW11.out.size))) (by rw [List.length_map]; have := HLN.out; omega) (by rw [List.length_map]; have := HLN.out; omega)).mono fun e w' h => ⟨by rw [h.1]; simp, h.2⟩)); clear hm4 htx4 hb4; dsimp only))
          | (go_at_call 35; go_must (refine CSM.out.mono ?_; rintro e w15 ⟨rfl, hb5⟩; have B15 := hid (B14.out.trans (hb5.mono B14.out.size)); clear hb5; dsimp only)))
        have R : SnRel w1 g L.length (.pointer (some ⟨q2, 0, none⟩)) (.int .i64 ((i : Int) + 1)) w15 := ⟨i + 1, s4, _, bs2, q2, rfl, hlt, by omega, rfl, (S11.out.below B15.out).less (fun _ h => h.elim), ST4.out⟩
        have HR := hid R
        clear R
        refine ⟨?_, ?_⟩
        rotate_left
        · show L.length - (intOf (.int .i64 ((i : Int) + 1))).toNat < L.length - (intOf (.int .i64 (i : Int))).toNat
          simp only [intOf]
          omega
        first | exact HR.out | ((repeat apply Exists.intro); refine ⟨HR.out, ?_⟩; and_intros <;> rfl)
end Go.Proofs.YtoapibbbooongaaDoor
