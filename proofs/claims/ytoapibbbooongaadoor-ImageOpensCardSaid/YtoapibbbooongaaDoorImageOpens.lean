/- ImageOpens: any sectors have images, or none; opened twice they have the same. -/
import Derived.Test.YtoapibbbooongaaDoorImgAl
import Derived.Test.YtoapibbbooongaaDoorImgRo
namespace Go.Proofs.YtoapibbbooongaaDoor
open Go.RowKit Go.Quad _root_.Quad _root_.Quad.Slab

theorem rvbl8_open {w : World} {v : Value} (h : RV Tryd.prog w 34 v) : ∃ a c l, v = .slice a l.length c ∧ BL w Anyw (.slice a l.length c) l ∧ l.length ≤ 9223372036854775807 := by
  obtain ⟨a, cap, E, rfl, hE, hl, hc⟩ := h.slice under_slbs 1 (by kernel_rfl) (by decide)
  have key : ∀ E : List (List Value), (∀ x ∈ E, x.length = 1 ∧ RC Tryd.prog w 33 x) → ∃ LD : List (Value × List UInt8), LD.length = E.length ∧ E.flatten = LD.flatMap dD ∧ ∀ x ∈ LD, TX w Anyw x.1 x.2 := by
    intro E
    induction E with
    | nil => intro _; exact ⟨[], rfl, rfl, by simp⟩
    | cons x E ih =>
      intro h
      obtain ⟨LD, h1, h2, h3⟩ := ih fun y hy => h y (List.mem_cons_of_mem _ hy)
      obtain ⟨a', c', p, e, hb⟩ := (h x (List.mem_cons_self ..)).2.bytes under_bytes under_u8 (by kernel_rfl)
      refine ⟨(.slice a' p.length c', p) :: LD, by simp [h1], by rw [List.flatten_cons, h2, e, List.flatMap_cons]; rfl, fun q hq => ?_⟩
      rcases List.mem_cons.1 hq with rfl | hq
      · exact ⟨a', c', rfl, hb, fun _ _ => trivial⟩
      · exact h3 q hq
  obtain ⟨LD, h1, h2, h3⟩ := key E hE
  have hm := hc.max
  exact ⟨a, cap, LD.map (·.2), by rw [List.length_map, h1], ⟨a, cap, LD, rfl, by rw [← h2]; exact hc, rfl, h3, fun _ _ => trivial⟩, by rw [List.length_map, h1]; unfold maxLen at hm; omega⟩
theorem iquiet_writeL {s : Sl} {k : Nat} {t : Bytes} (h : Quiet s) (hk : k < s.done.length) (ht : t.length ≤ 128) :
    ∃ s', writeL s (k : Int) t = (s', 0) ∧ Quiet s' ∧ s'.done = s.done ∧ s'.steps = s.steps + 1 ∧ s'.way.length = s.way.length + 1 := by
  obtain ⟨q1, q2⟩ := step_quiet h.arm
  have e : writeL s (k : Int) t = ({ stepL s with way := s.way ++ [(k, pad t)] }, 0) := by
    unfold writeL
    rw [if_neg (by rw [hasL_zero hk ht h.on]; simp), Int.toNat_natCast, q1, h.on]
    rfl
  refine ⟨_, e, ⟨by rw [← h.on, ← q1], q2, fun w hw => ?_⟩, rfl, rfl, by simp⟩
  rcases List.mem_append.1 hw with hw | hw
  · exact h.way w hw
  · rw [List.mem_singleton] at hw; subst hw; exact hk
/-- a code's slab and the document's, alike -/
structure IoSt (i : Nat) (s : Sl) : Prop where
  q : Quiet s
  len : s.done.length = 10
  steps : s.steps ≤ min i 10
  way : s.way.length ≤ min i 10
theorem IoSt.put {i : Nat} {s : Sl} (h : IoSt i s) (hi : i < 10) {t : Bytes} (ht : t.length ≤ 128) : IoSt (i + 1) (writeL s (i : Int) t).1 := by
  obtain ⟨s', e, q, d, st, wy⟩ := iquiet_writeL h.q (by rw [h.len]; exact hi) ht
  rw [e]
  have := h.steps
  have := h.way
  exact ⟨q, by rw [d]; exact h.len, by show s'.steps ≤ _; omega, by show s'.way.length ≤ _; omega⟩
theorem no_job0 (s : Sl) (f n : Nat) : findI (listI (seeG s f) n n) 0 = none := list_none fun a _ y hy => by
  obtain ⟨_, h1, l, _, rfl⟩ := there_some.1 hy
  exact (headOk_iff.1 h1).2.1
def IoRel (w1 : World) (B2 g d g2 dn dc m : Nat) (iv : Value) (wr : World) : Prop :=
  ∃ (i : Nat) (s : Sl), iv = .int .i64 (i : Int) ∧ i ≤ m ∧ Pl w1 B2 g d g2 dn dc [] s s wr ∧ IoSt i s
def IpRel (w1 : World) (B2 g d g2 dn dc : Nat) (s : Sl) (iv : Value) (wr : World) : Prop :=
  ∃ i : Nat, iv = .int .i64 (i : Int) ∧ i ≤ 2 ∧ Pl w1 B2 g d g2 dn dc [] s s wr
def IopTo (w : World) (e : Ending) (w' : World) : Prop := e = .returned (.bool true) ∧ Below w.heap.size w w'
set_option maxRecDepth 100000 in
set_option maxHeartbeats 20000000 in
theorem imageOpens_walk (v0 : Value) (w : World) (h0 : RV Tryd.prog w 34 v0) (hq : Laid w) :
    Calls Tryd.prog 4 #[v0] w (IopTo w) := by
  obtain ⟨ad, cp, L, rfl, hL, hm0⟩ := rvbl8_open h0
  have HQ := hid hq
  have HL := hid hL
  have hm : (L.length : Int) ≤ 9223372036854775807 := by omega
  clear h0 hq hL hm0
  go_enter Tryd.func4, Tryd.ntmps4
  go_upto_region 3 with (go_at_call 11; go_must (refine (iawake_calls w HQ.out).mono ?_; rintro e w1 ⟨rfl, hb1⟩; have B1 := hid hb1; clear hb1; dsimp only))
  have L1 := hid (HQ.out.below B1.out HQ.out.1)
  go_upto_region 4 with (go_at_call 12; go_must (refine (sa_new w1 10 (by decide)).mono ?_; rintro e w2 ⟨g, rfl, h1⟩; have S1 := hid h1; clear h1; dsimp only))
  go_upto_region 5 with (go_at_call 16; go_must (refine (rnew_calls w2 10 (by decide)).mono ?_; rintro e w3 ⟨g2, dn, dc, rfl, h2, hb2⟩; have S2 := hid h2; have B3 := hid hb2; clear h2 hb2; dsimp only))
  obtain ⟨⟨d, wv, his⟩, hbs⟩ := S1.out
  have P3 := hid (show Pl w1 w2.heap.size g d g2 dn dc [] (newL 10) (newL 10) w3 from ⟨⟨wv, _, _, his.below B3.out, S2.out, fun k hk hf => by have := (his.in_ge k hk).2; have := hf.1; omega, by simp⟩, hbs.trans (B3.out.mono hbs.size), hbs.size⟩)
  obtain ⟨B2, hB2⟩ : ∃ B2, w2.heap.size = B2 := ⟨_, rfl⟩
  rw [hB2] at P3
  have R0 := hid (show IoRel w1 B2 g d g2 dn dc L.length (.int .i64 0) w3 from ⟨0, newL 10, rfl, Nat.zero_le _, P3.out, new_quiet 10, by simp [newL], Nat.le_refl _, Nat.le_refl _⟩)
  clear his hbs hB2
  go_wp2_with fail
  go_loopw [7, 8, 25] (fun _ _ iv wr => IoRel w1 B2 g d g2 dn dc L.length iv wr) (fun _ _ iv _ => L.length - (intOf iv).toNat)
  case atStart => exact R0.out
  case round =>
    clear R0
    obtain ⟨i, s, rfl, hil, hpl, hst⟩ := hrel
    have PL := hid hpl
    have ST := hid hst
    have bwr := hid (B1.out.trans (hpl.bel.mono B1.out.size))
    clear hpl hst
    by_cases hlt : i < L.length
    · have hlt' : (i : Int) < (L.length : Int) := by omega
      obtain ⟨b, off, rfl, _, v, hcell, a4, c4, rfl, hbs, _⟩ := (HL.out.below bwr.out).at hlt
      have hbs0 : BS w a4 c4 (L.getD i []) := by
        obtain ⟨b', off', e', _, v', hcell', a5, c5, rfl, hbs', _⟩ := HL.out.at hlt
        cases e'
        have h2 := cell_later bwr.out hcell'
        rw [hcell] at h2
        cases h2
        exact hbs'
      obtain ⟨tt, htt⟩ : ∃ tt, L.getD i [] = tt := ⟨_, rfl⟩
      rw [htt] at hcell hbs hbs0
      have BS0 := hid hbs0
      obtain ⟨n4, hn4⟩ : ∃ n4, tt.length = n4 := ⟨_, rfl⟩
      have HN4 := hid hn4
      rw [hn4] at hcell
      have hfit := hbs.fit'
      rw [hn4] at hfit
      clear hbs hbs0 htt hn4
      by_cases h8 : i < 10
      · have h8' : (i : Int) < 10 := by omega
        obtain ⟨m4, hm4⟩ : ∃ m4, min n4 128 = m4 := ⟨_, rfl⟩
        have hmin : (if (128 : Int) < (n4 : Int) then (128 : Int) else (n4 : Int)) = (m4 : Int) := by split <;> omega
        have hmin2 : min (n4 : Int) 128 = (m4 : Int) := by omega
        have hm3 : (m4 : Int) ≤ 128 := by omega
        have hmc : (m4 : Int) ≤ (c4 : Int) := by omega
        have hl4 : (tt.take m4).length = m4 := by rw [List.length_take]; have := HN4.out; omega
        have ht4 : BS w a4 c4 (tt.take m4) := by have := CS.take BS0.out m4; unfold BS; rw [List.map_take]; exact this
        obtain ⟨P, hP⟩ : ∃ P, tt.take m4 = P := ⟨_, rfl⟩
        rw [hP] at hl4 ht4
        have HP4 := hid hl4
        have TP4 := hid ht4
        have T4 := hid (ht4.below bwr.out)
        have ST2 := hid (ST.out.put h8 (t := P) (by rw [hl4]; omega))
        clear hm4 hl4 ht4 hP
        have CWG := hid fun (W5 : World) (a5 : Option Addr) (n5 p5 : Nat) (hb5 : Below wr.heap.size wr W5) (hn5 : P.length = n5) (hbs5 : BS W5 a5 p5 P) (hof5 : ∀ x, a5 = some x → wr.heap.size ≤ x.block ∧ x.block < W5.heap.size) => (show Calls Tryd.prog 17 #[.pointer (some ⟨g, 0, none⟩), .int .i64 (i : Int), .slice a5 n5 p5] W5 (fun e w' => e = .returned (.int .i64 ((writeL s (i : Int) P).2 : Int)) ∧ Pl w1 B2 g d g2 dn dc [] (writeL s (i : Int) P).1 s w') from by
          have hs := ST.out.steps
          have hw := ST.out.way
          cases a5 with
          | none =>
            have h0 : P = [] := by have := hbs5.fit'; have := CS.none hbs5 rfl; exact List.eq_nil_of_length_eq_zero (by omega)
            exact (pl_write (PL.out.below hb5) (i : Int) none p5 n5 P (by omega) hbs5 hn5 (by omega) (by omega) (.inl h0)).mono fun e w' h => ⟨h.1, h.2.1⟩
          | some x =>
            have hx := hof5 x rfl
            exact (pl_write (PL.out.more hb5 x.block hx.1 hx.2) (i : Int) (some x) p5 n5 P (by omega) hbs5 hn5 (by omega) (by omega) (.inr fun y hy => by cases hy; exact .inr (List.mem_singleton_self _))).mono fun e w' h => ⟨h.1, h.2.1.less (by simp)⟩)
        go_upto_region 10 with fail
        go_upto_region 11 with (first
          | (at_builtin; go_must (refine wpList_append_lit0 (.tmp 39) (.tmp 40) _ rfl rfl 5 info_u8 under_bytes rfl T4.out _ HP4.out rfl (by rw [HP4.out]; omega) ?_; intro v5 w5 ho5 hb5; obtain ⟨a5, n5, p5, rfl, hn5, hbs5, hof5⟩ := ob_n ho5; have CW := hid (CWG.out w5 a5 n5 p5 hb5 hn5 hbs5 (fun x hx => ⟨(hof5 x hx).2.2.1, (hof5 x hx).2.2.2⟩)); clear ho5 hb5 hbs5 hof5 hn5))
          | (go_at_call 17; go_must (refine CW.out.mono ?_; rintro e w6 ⟨rfl, h6⟩; have P6 := hid h6; clear h6; dsimp only)))
        have CP := hid (pl_put P6.out (i : Int) a4 c4 m4 P (by omega) (TP4.out.below (B1.out.trans (P6.out.bel.mono B1.out.size))) HP4.out (by have := ST.out.steps; omega) (by have := ST.out.way; omega) (offX_old TP4.out B1.out.size))
        go_wp2_with (go_at_call 18; go_must (refine CP.out.mono ?_; rintro e w7 ⟨rfl, h7, _⟩; have P7 := hid h7; clear h7; dsimp only))
        have R : IoRel w1 B2 g d g2 dn dc L.length (.int .i64 ((i : Int) + 1)) w7 := ⟨i + 1, _, rfl, hlt, P7.out, ST2.out⟩
        have HR := hid R
        clear R
        refine ⟨?_, by simp only [intOf]; omega⟩
        first | exact HR.out | ((repeat apply Exists.intro); refine ⟨HR.out, ?_⟩; and_intros <;> rfl)
      · have h8' : ¬ ((i : Int) < 10) := by omega
        have ST2 := hid (show IoSt (i + 1) s from ⟨ST.out.q, ST.out.len, by have := ST.out.steps; omega, by have := ST.out.way; omega⟩)
        have R : IoRel w1 B2 g d g2 dn dc L.length (.int .i64 ((i : Int) + 1)) wr := ⟨i + 1, _, rfl, hlt, PL.out, ST2.out⟩
        have HR := hid R
        clear R
        go_wp2_with fail
        refine ⟨?_, by simp only [intOf]; omega⟩
        first | exact HR.out | ((repeat apply Exists.intro); refine ⟨HR.out, ?_⟩; and_intros <;> rfl)
    · have hlt' : ¬ ((i : Int) < (L.length : Int)) := by omega
      have R1 := hid (show IpRel w1 B2 g d g2 dn dc s (.int .i64 0) wr from ⟨0, rfl, by omega, PL.out⟩)
      have HOP := hid (show openI s (0 : Int) (10 : Int) 5 = (some ⟨s, 0, 5, listI (seeG s 0) 10 10, usedI 10 (listI (seeG s 0) 10 10), false⟩, 0) from open_any (s := s) (f := 0) (n := 10) (e := 5) ST.out.q (by rw [ST.out.len]; decide) (by decide))
      go_wp2_with fail
      go_loopw [9, 10, 11, 12, 48] (fun _ _ _ _ iv wr => IpRel w1 B2 g d g2 dn dc s iv wr) (fun _ _ _ _ iv _ => 2 - (intOf iv).toNat)
      case atStart => exact R1.out
      case round =>
        clear R1
        obtain ⟨w4, rfl⟩ : ∃ w4 : World, w4 = wr := ⟨_, rfl⟩
        obtain ⟨k, rfl, hk2, hpl⟩ := hrel
        have PK := hid hpl
        have BK := hid (B1.out.trans (hpl.bel.mono B1.out.size))
        clear hpl
        by_cases hk : k < 2
        · have hk' : (k : Int) < 2 := by omega
          obtain ⟨wv4, F4, wv24, hs4, hr4, hd4, _⟩ := PK.out.ex
          have HR4 := hid hr4
          have CO := hid (ls_open w1 w4 g s 0 10 5 _ ⟨⟨d, wv4, hs4⟩, PK.out.bel⟩ L1.out (by decide) (by decide) (by decide) (by rw [ST.out.len]; decide) HOP.out)
          clear hs4 hr4 hd4
          go_upto_region 16 with (go_at_call 13; go_must (refine CO.out.mono ?_; rintro e w5 ⟨c, rfl, hl5, hb5⟩; have LX5 := hid (LX.of hl5); have B5 := hid hb5; clear hl5 hb5; dsimp only))
          have CR := hid (show Calls Tryd.prog 19 #[.pointer (some ⟨g2, 0, none⟩), .int .i64 0, .int .i64 10, .int .u32 5] w5 (ROpenI w5 g2 (some ⟨s, 0, 5, listI (seeG s 0) 10 10, usedI 10 (listI (seeG s 0) 10 10), false⟩, 0)) from by rw [← HOP.out]; exact ropenI_calls w5 F4 B2 g2 dn dc wv24 s 0 10 5 (HR4.out.below B5.out) (by decide) (by decide) (by decide) (by rw [ST.out.len]; decide))
          go_upto_region 17 with (go_at_call 19; go_must (refine CR.out.mono ?_; rintro e w6 ht; obtain ⟨hb6, c6, d6, lv6, L6, rfl, hx6⟩ := ht; have B6 := hid hb6; have X6 := hid hx6; clear hb6 hx6; dsimp only))
          have CA := hid (ialike_calls w1 w6 [] g c _ (LX5.out.below B6.out) _ _ g2 c6 d6 lv6 L6 _ X6.out rfl rfl (small_J s 0 10 10) (no_job0 s 0 10) (by have := listI_len (seeG s 0) 10 10; dsimp only; omega))
          have R2 := hid fun (W : World) (hW : Below w6.heap.size w6 W) => (show IpRel w1 B2 g d g2 dn dc s (.int .i64 ((k : Int) + 1)) W from ⟨k + 1, rfl, hk, ((PK.out.below B5.out).below B6.out).below hW⟩)
          go_wp2_with (go_at_call 20; go_must (refine CA.out.mono ?_; rintro e w7 ⟨rfl, hb7⟩; have R7 := hid (R2.out w7 hb7); clear hb7; dsimp only))
          refine ⟨?_, by simp only [intOf]; omega⟩
          first | exact R7.out | ((repeat apply Exists.intro); refine ⟨R7.out, ?_⟩; and_intros <;> rfl)
        · have hk' : ¬ ((k : Int) < 2) := by omega
          go_wp2_with fail
          go_ret
          exact ⟨rfl, BK.out⟩
end Go.Proofs.YtoapibbbooongaaDoor
