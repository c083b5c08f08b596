/- The walks of LeaseStays and LeaseGone: one node. -/
import Derived.Test.YtolgfemjpkgloaaLeaseD
namespace Go.Proofs.Ytolgfemjpkgloaa
open Go.RowKit Go.Quad _root_.Quad.Lease

theorem nat_of_u32 {x : Int} (h : (Lit.int .u32 x).wf = true) : ∃ n : Nat, x = (n : Int) ∧ n ≤ 4294967295 := by
  simp only [Lit.wf, Bool.and_eq_true, decide_eq_true_eq] at h
  obtain ⟨h1, h2⟩ := h
  refine ⟨x.toNat, ?_, ?_⟩
  · have : (0 : Int) ≤ x := h1
    omega
  · have : x ≤ 4294967295 := h2
    omega

theorem tick_one (n : Nd) (now : Nat) : tickN [n] 0 now = ([(tick1 n now).1], (if (tick1 n now).2.1 then [(0, (tick1 n now).1.until')] else []), (if (tick1 n now).2.2 then [0] else [])) := by simp [tickN]

theorem tick_loud (life h u now : Nat) (hn : now - h < 4) (hu : u ≤ now + 8) (hb : now ≤ 1000) : tickN [⟨1, life, h, u⟩] 0 now = ([⟨1, life, h, now + 8⟩], [(0, now + 8)], []) := by
  have e : tick1 ⟨1, life, h, u⟩ now = (⟨1, life, h, now + 8⟩, true, false) := by
    unfold tick1; dsimp only
    rw [if_pos ⟨rfl, by omega⟩, show max u (later8 now) = now + 8 from by unfold later8; omega]
  rw [tick_one, e]; rfl
theorem tick_doubt (st life h u now : Nat) (hs : st = 1 ∨ st = 2) (hh : h ≤ now) (hn : st = 1 → 4 ≤ now - h) (hu : now ≤ u) : tickN [⟨st, life, h, u⟩] 0 now = ([⟨2, life, h, u⟩], [], []) := by
  have e : tick1 ⟨st, life, h, u⟩ now = (⟨2, life, h, u⟩, false, false) := by
    unfold tick1; dsimp only
    rw [if_neg (by omega), if_neg (by omega), if_neg (by omega)]
  rw [tick_one, e]; rfl
theorem tick_away (life h u now : Nat) (hu : u < now) : tickN [⟨2, life, h, u⟩] 0 now = ([⟨0, life, h, u⟩], [], [0]) := by
  have e : tick1 ⟨2, life, h, u⟩ now = (⟨0, life, h, u⟩, false, true) := by
    unfold tick1; dsimp only
    rw [if_neg (by omega), if_neg (by omega), if_pos (by omega)]
  rw [tick_one, e]; rfl
theorem tick_still (life h u now : Nat) : tickN [⟨0, life, h, u⟩] 0 now = ([⟨0, life, h, u⟩], [], []) := by
  have e : tick1 ⟨0, life, h, u⟩ now = (⟨0, life, h, u⟩, false, false) := by
    unfold tick1; dsimp only
    rw [if_neg (by omega), if_pos (by omega)]
  rw [tick_one, e]; rfl

theorem hear_first (life : Nat) (h0 : life ≠ 0) : hearN (List.replicate 1 zero) 0 1 life = ([⟨1, life, 1, 9⟩], true, false) := by
  have e : hear1 zero 1 life = (⟨1, life, 1, 9⟩, true, false) := by
    unfold hear1 zero; dsimp only
    rw [if_neg (by omega), if_neg h0]
    rfl
  unfold hearN
  rw [if_neg (by simp)]
  show ((List.replicate 1 zero).set 0 (hear1 zero 1 life).1, (hear1 zero 1 life).2) = _
  rw [e]; rfl
theorem hear_again (life h u now : Nat) : hearN [⟨1, life, h, u⟩] 0 now life = ([⟨1, life, now, u⟩], false, false) := by
  have e : hear1 ⟨1, life, h, u⟩ now life = (⟨1, life, now, u⟩, false, false) := by
    unfold hear1; dsimp only
    rw [if_neg (by omega), if_pos rfl]
  unfold hearN
  rw [if_neg (by simp)]
  show ([(⟨1, life, h, u⟩ : Nd)].set 0 (hear1 ⟨1, life, h, u⟩ now life).1, (hear1 ⟨1, life, h, u⟩ now life).2) = _
  rw [e]; rfl

def StRel (m g s life : Nat) (w0 : World) (nowv i : Value) (w : World) : Prop :=
  ∃ (k n : Nat), i = .int .i64 (k : Int) ∧ k ≤ m ∧ k ≤ 60 ∧ nowv = .int .u32 (n : Int) ∧ 1 ≤ n ∧ n ≤ 1 + 3 * k ∧ IsBook w g s [⟨1, life, n, n + 8⟩] ∧ Below w0.heap.size w0 w
def StRel2 (c g s life n0 : Nat) (w0 : World) (nowv j : Value) (w : World) : Prop :=
  ∃ (q : Nat), j = .int .u8 (q : Int) ∧ q ≤ c ∧ nowv = .int .u32 ((n0 + q : Nat) : Int) ∧ IsBook w g s [⟨1, life, n0, n0 + q + 8⟩] ∧ Below w0.heap.size w0 w

set_option maxRecDepth 20000 in
set_option maxHeartbeats 4000000 in
theorem leaseStays_walk (a : Option Addr) (cap : Nat) (l : List UInt8) (x : Int) (w : World) (h : BS w a cap l) (hx : (Lit.int .u32 x).wf = true) :
    Calls Try.prog 3 #[.slice a l.length cap, .int .u32 x] w fun e w' => e = .returned (.bool true) ∧ Below w.heap.size w w' := by
  obtain ⟨life, rfl, hlife⟩ := nat_of_u32 hx
  have hl := h.max'
  have H := hid h
  clear h hx
  by_cases hz : life = 0
  · have hz' : ((life : Int) == 0) = true := by rw [beq_iff_eq]; omega
    clear hz
    go_enter Try.func3, Try.ntmps3
    go_wp2_with fail
    refine (awake_calls w).mono ?_
    rintro e w1 ⟨rfl, hb⟩
    have H1 := hid hb
    clear hb
    go_wp2_with fail
    refine (awake_calls w1).mono ?_
    rintro e w2 ⟨rfl, hb⟩
    have H2 := hid (H1.out.trans (hb.mono H1.out.size))
    clear hb
    go_wp2_with fail
    go_ret
    exact ⟨rfl, H2.out⟩
  · have hz' : ((life : Int) == 0) = false := by rw [beq_eq_false_iff_ne]; omega
    have Hz := hid hz
    clear hz
    go_enter Try.func3, Try.ntmps3
    go_wp2_with fail
    refine (awake_calls w).mono ?_
    rintro e w1 ⟨rfl, hb⟩
    have H1 := hid hb
    clear hb
    go_wp2_with fail
    refine (newbook_calls w1 1 (by omega)).mono ?_
    rintro e w2 ⟨g, s, rfl, hB, hs, hsg, hb⟩
    have B2 := hid hB
    have H2 := hid (H1.out.trans (hb.mono H1.out.size))
    have Sg : Kept (∀ k ∈ [s], w.heap.size ≤ k) := ⟨by intro k hk; simp at hk; have := H1.out.size; omega⟩
    clear hB hs hsg hb
    go_wp2_with fail
    refine (hear_u w2 g s _ 0 1 life B2.out (by omega) (by omega) hlife (hear_first life Hz.out)).mono ?_
    rintro e w3 ⟨rfl, hB, hc⟩
    have B3 := hid hB
    have H3 := hid (H2.out.trans (hc.below H2.out.size Sg.out))
    clear hB hc
    go_wp2_with fail
    go_loopw [7, 28] (fun nowv i wr => StRel l.length g s life w nowv i wr) (fun _ i _ => l.length - (intOf i).toNat)
    case atStart => exact ⟨0, 1, rfl, Nat.zero_le _, by omega, rfl, by omega, by omega, B3.out, H3.out⟩
    case round =>
      obtain ⟨k, n, rfl, hk, hk60, rfl, hn1, hn3, hB, hb⟩ := hrel
      have B := hid hB
      have HB := hid hb
      clear hB hb
      by_cases hgo : k < l.length ∧ k < 60
      · obtain ⟨hkl, h60⟩ := hgo
        obtain ⟨b0, off, rfl, hcm⟩ := (H.out.below HB.out).get (by omega)
        obtain ⟨y, _, hy, hcy⟩ := hcm k hkl
        clear hcm
        have hkl' : (k : Int) < (l.length : Int) := by omega
        have h60' : ¬ ((60 : Int) ≤ (k : Int)) := by omega
        have Hr := hid (And.intro hkl h60)
        clear hkl h60
        go_wp2_with fail
        obtain ⟨wo, hwo⟩ : ∃ wo : World, wo = wr := ⟨_, rfl⟩
        have hc3 : 1 + y % 3 ≤ 3 := by omega
        go_loopw [7, 38] (fun nowv j wr => StRel2 (1 + y % 3) g s life n w nowv j wr) (fun _ j _ => 1 + y % 3 - (intOf j).toNat)
        case atStart => exact ⟨0, rfl, Nat.zero_le _, rfl, B.out, HB.out⟩
        case round =>
          obtain ⟨q, rfl, hq, rfl, hB, hb⟩ := hrel
          have Bq := hid hB
          have HBq := hid hb
          clear hB hb
          by_cases hqc : q < 1 + y % 3
          · have hqc' : (q : Int) < 1 + (y : Int) % 3 := by omega
            have hnq : ((n + q : Nat) : Int) ≤ 200 := by omega
            have C := tick_u wr g s _ (n + q + 1) Bq.out (by omega) (tick_loud life n (n + q + 8) (n + q + 1) (by omega) (by omega) (by omega))
            rw [show ((n + q + 1 : Nat) : Int) = (n : Int) + (q : Int) + 1 from by omega] at C
            have Cx := hid C
            clear C
            go_wp2_with fail
            refine Cx.out.mono ?_
            rintro e w5 ⟨ga, gc, aa, ac, rfl, hg, ha, hB, hc, _⟩
            obtain ⟨bg, og, rfl, d0, d1⟩ := gr_at (k := 0) hg (by simp)
            have d1' : w5.cell? ⟨bg, og + 1, none⟩ = some (.int .u32 ((n : Int) + (q : Int) + 1 + 8)) := by
              simp only [Nat.zero_mul, Nat.add_zero, List.getElem_cons_zero] at d1
              rw [d1]
              congr 2
            have B5 := hid hB
            have H5 := hid (HBq.out.trans (hc.below HBq.out.size Sg.out))
            clear hg ha hB hc d0 d1
            go_wp2_with fail
            have RR : StRel2 (1 + y % 3) g s life n w (.int .u32 ((n : Int) + (q : Int) + 1)) (.int .u8 ((q : Int) + 1)) w5 :=
              ⟨q + 1, by go_num, by omega, by go_num, by have := B5.out; rw [show n + q + 1 + 8 = n + (q + 1) + 8 from by omega] at this; exact this, H5.out⟩
            refine ⟨?_, by simp [intOf]; omega⟩
            first | exact RR | ((repeat apply Exists.intro); refine ⟨RR, ?_⟩; and_intros <;> rfl)
          · have hqc' : ¬ ((q : Int) < 1 + (y : Int) % 3) := by omega
            have hqe : q = 1 + y % 3 := by omega
            have Hqe := hid hqe
            have hnq : (n : Int) + (q : Int) ≤ 200 := by omega
            have C := hear_u wr g s _ 0 (n + q) life Bq.out (by omega) (by omega) hlife (hear_again life n (n + q + 8) (n + q))
            rw [show ((n + q : Nat) : Int) = (n : Int) + (q : Int) from by omega] at C
            have Cx := hid C
            clear C hqe
            go_wp2_with fail
            refine Cx.out.mono ?_
            rintro e w5 ⟨rfl, hB, hc⟩
            have B5 := hid hB
            have H5 := hid (HBq.out.trans (hc.below HBq.out.size Sg.out))
            clear hB hc
            go_wp2_with fail
            have RR : StRel l.length g s life w (.int .u32 ((n : Int) + (q : Int))) (.int .i64 ((k : Int) + 1)) w5 :=
              ⟨k + 1, n + q, by go_num, by have := Hr.out; omega, by have := Hr.out; omega, by go_num, by omega, by have := Hqe.out; omega, B5.out, H5.out⟩
            refine ⟨?_, by simp [intOf]; have := Hr.out; omega⟩
            first | exact RR | ((repeat apply Exists.intro); refine ⟨RR, ?_⟩; and_intros <;> rfl)
      · have C := state_calls wr g s _ 0 B.out (by omega)
        by_cases hkl : k < l.length
        · obtain ⟨b0, off, rfl, hcm⟩ := (H.out.below HB.out).get (by omega)
          obtain ⟨y, _, hy, hcy⟩ := hcm k hkl
          clear hcm
          have hkl' : (k : Int) < (l.length : Int) := by omega
          have h60' : (60 : Int) ≤ (k : Int) := by omega
          have Cx := hid C
          clear C
          go_wp2_with fail
          refine Cx.out.mono ?_
          rintro e w' ⟨rfl, rfl⟩
          go_wp2_with fail
          go_ret
          exact ⟨rfl, HB.out⟩
        · have hkl' : ¬ ((k : Int) < (l.length : Int)) := by omega
          have Cx := hid C
          clear C
          go_wp2_with fail
          refine Cx.out.mono ?_
          rintro e w' ⟨rfl, rfl⟩
          go_wp2_with fail
          go_ret
          exact ⟨rfl, HB.out⟩

/-- a node that isn't heard any more: behind the tick now -/
def lost (life now : Nat) : Nd := if now ≤ 4 then ⟨1, life, 1, now + 8⟩ else if now ≤ 12 then ⟨2, life, 1, 12⟩ else ⟨0, life, 1, 12⟩

def GoRel (c g s life : Nat) (w0 : World) (told until' i : Value) (w : World) : Prop :=
  ∃ (q : Nat), i = .int .u32 (q : Int) ∧ q ≤ c ∧ told = .int .i64 (if 12 ≤ q then 1 else 0) ∧ until' = .int .u32 (if q ≤ 3 then (q : Int) + 9 else 12) ∧ IsBook w g s [lost life (q + 1)] ∧ Below w0.heap.size w0 w

set_option maxRecDepth 20000 in
set_option maxHeartbeats 4000000 in
theorem leaseGone_walk (x y : Int) (w : World) (hx : (Lit.int .u32 x).wf = true) (hy : (Lit.int .u8 y).wf = true) :
    Calls Try.prog 6 #[.int .u32 x, .int .u8 y] w fun e w' => e = .returned (.bool true) ∧ Below w.heap.size w w' := by
  obtain ⟨life, rfl, hlife⟩ := nat_of_u32 hx
  have hyb := bounds_u8 hy
  obtain ⟨more, rfl⟩ : ∃ m : Nat, y = (m : Int) := ⟨y.toNat, by omega⟩
  clear hx hy
  by_cases hz : life = 0
  · have hz' : ((life : Int) == 0) = true := by rw [beq_iff_eq]; omega
    clear hz
    go_enter Try.func6, Try.ntmps6
    go_wp2_with fail
    refine (awake_calls w).mono ?_
    rintro e w1 ⟨rfl, hb⟩
    have H1 := hid hb
    clear hb
    go_wp2_with fail
    refine (awake_calls w1).mono ?_
    rintro e w2 ⟨rfl, hb⟩
    have H2 := hid (H1.out.trans (hb.mono H1.out.size))
    clear hb
    go_wp2_with fail
    go_ret
    exact ⟨rfl, H2.out⟩
  · have hz' : ((life : Int) == 0) = false := by rw [beq_eq_false_iff_ne]; omega
    have Hz := hid hz
    clear hz
    go_enter Try.func6, Try.ntmps6
    go_wp2_with fail
    refine (awake_calls w).mono ?_
    rintro e w1 ⟨rfl, hb⟩
    have H1 := hid hb
    clear hb
    go_wp2_with fail
    refine (newbook_calls w1 1 (by omega)).mono ?_
    rintro e w2 ⟨g, s, rfl, hB, hs, hsg, hb⟩
    have B2 := hid hB
    have H2 := hid (H1.out.trans (hb.mono H1.out.size))
    have Sg : Kept (∀ k ∈ [s], w.heap.size ≤ k) := ⟨by intro k hk; simp at hk; have := H1.out.size; omega⟩
    clear hB hs hsg hb
    go_wp2_with fail
    refine (hear_u w2 g s _ 0 1 life B2.out (by omega) (by omega) hlife (hear_first life Hz.out)).mono ?_
    rintro e w3 ⟨rfl, hB, hc⟩
    have B3 := hid hB
    have H3 := hid (H2.out.trans (hc.below H2.out.size Sg.out))
    clear hB hc
    go_wp2_with fail
    refine (until_calls w3 g s _ 0 B3.out (by omega)).mono ?_
    rintro e w' ⟨rfl, rfl⟩
    rw [show nodeAt [⟨1, life, 1, 9⟩] 0 = ⟨1, life, 1, 9⟩ from rfl]
    go_wp2_with fail
    go_loopw [7, 8, 34] (fun told un i wr => GoRel (30 + more % 20) g s life w told un i wr) (fun _ _ i _ => 30 + more % 20 - (intOf i).toNat)
    case atStart => exact ⟨0, rfl, Nat.zero_le _, rfl, rfl, B3.out, H3.out⟩
    case round =>
      obtain ⟨q, rfl, hq, rfl, rfl, hB, hb⟩ := hrel
      have B := hid hB
      have HB := hid hb
      clear hB hb
      by_cases hqc : q < 30 + more % 20
      · have hqc' : (q : Int) < 30 + (more : Int) % 20 := by omega
        by_cases q2 : q ≤ 2
        · have eo : lost life (q + 1) = ⟨1, life, 1, q + 9⟩ := by unfold lost; rw [if_pos (by omega)]
          have en : lost life (q + 2) = ⟨1, life, 1, q + 10⟩ := by unfold lost; rw [if_pos (by omega)]
          have Bo := B.out
          rw [eo] at Bo
          rw [if_neg (show ¬ (12 ≤ q) by omega), if_pos (show q ≤ 3 by omega)]
          have C := tick_u wr g s _ (q + 2) Bo (by omega) (tick_loud life 1 (q + 9) (q + 2) (by omega) (by omega) (by omega))
          rw [show ((q + 2 : Nat) : Int) = 2 + (q : Int) from by omega] at C
          have g1 : ¬ ((5 : Int) ≤ 2 + (q : Int)) := by omega
          have Cx := hid C
          have En := hid en
          clear C eo en Bo
          go_wp2_with fail
          refine Cx.out.mono ?_
          rintro e w5 ⟨ga, gc, aa, ac, rfl, hg, ha, hB, hc, _⟩
          obtain ⟨bg, og, rfl, d0, d1⟩ := gr_at (k := 0) hg (by simp)
          have d1' : w5.cell? ⟨bg, og + 1, none⟩ = some (.int .u32 ((q : Int) + 2 + 8)) := by
            simp only [Nat.zero_mul, Nat.add_zero, List.getElem_cons_zero] at d1
            rw [d1]
            congr 2
          clear d0 d1
          have B5 := hid hB
          have H5 := hid (HB.out.trans (hc.below HB.out.size Sg.out))
          clear hg ha hB hc
          go_wp2_with fail
          refine (state_calls w5 g s _ 0 B5.out (by omega)).mono ?_
          rintro e w' ⟨rfl, rfl⟩
          rw [show nodeAt [⟨1, life, 1, q + 10⟩] 0 = ⟨1, life, 1, q + 10⟩ from rfl]
          go_wp2_with fail
          have RR : GoRel (30 + more % 20) g s life w (.int .i64 0) (.int .u32 ((q : Int) + 2 + 8)) (.int .u32 ((q : Int) + 1)) w5 :=
            ⟨q + 1, by go_num, by omega, by rw [if_neg (by omega)], by rw [if_pos (by omega)]; first | (congr 1; done) | (congr 1; omega), by rw [show q + 1 + 1 = q + 2 from rfl, En.out]; exact B5.out, H5.out⟩
          refine ⟨?_, by simp [intOf]; omega⟩
          first | exact RR | ((repeat apply Exists.intro); refine ⟨RR, ?_⟩; and_intros <;> rfl)
        by_cases q3 : q = 3
        · have qa : 3 ≤ q ∧ q ≤ 3 := by omega
          obtain ⟨qa, qb⟩ := qa
          have eo : lost life (q + 1) = ⟨1, life, 1, 12⟩ := by subst q3; rfl
          have en : lost life (q + 2) = ⟨2, life, 1, 12⟩ := by subst q3; rfl
          have Bo := B.out
          rw [eo] at Bo
          rw [if_neg (show ¬ (12 ≤ q) by omega), if_pos (show q ≤ 3 by omega)]
          have C := tick_u wr g s _ (q + 2) Bo (by omega) (tick_doubt 1 life 1 12 (q + 2) (by omega) (by omega) (by omega) (by omega))
          rw [show ((q + 2 : Nat) : Int) = 2 + (q : Int) from by omega] at C
          have g1 : (5 : Int) ≤ 2 + (q : Int) := by omega
          have g2 : ¬ ((12 : Int) < 2 + (q : Int)) := by omega
          have g3 : ¬ ((q : Int) + 9 < 2 + (q : Int)) := by omega
          have Cx := hid C
          have En := hid en
          clear C eo en Bo q3
          go_wp2_with fail
          refine Cx.out.mono ?_
          rintro e w5 ⟨ga, gc, aa, ac, rfl, hg, ha, hB, hc, _⟩
          have B5 := hid hB
          have H5 := hid (HB.out.trans (hc.below HB.out.size Sg.out))
          clear hg ha hB hc
          go_wp2_with fail
          refine (state_calls w5 g s _ 0 B5.out (by omega)).mono ?_
          rintro e w' ⟨rfl, rfl⟩
          rw [show nodeAt [⟨2, life, 1, 12⟩] 0 = ⟨2, life, 1, 12⟩ from rfl]
          go_wp2_with fail
          have RR : GoRel (30 + more % 20) g s life w (.int .i64 0) (.int .u32 ((q : Int) + 9)) (.int .u32 ((q : Int) + 1)) w5 :=
            ⟨q + 1, by go_num, by omega, by rw [if_neg (by omega)], by rw [if_neg (by omega)]; congr 1; omega, by rw [show q + 1 + 1 = q + 2 from rfl, En.out]; exact B5.out, H5.out⟩
          refine ⟨?_, by simp [intOf]; omega⟩
          first | exact RR | ((repeat apply Exists.intro); refine ⟨RR, ?_⟩; and_intros <;> rfl)
        by_cases q10 : q ≤ 10
        · have eo : lost life (q + 1) = ⟨2, life, 1, 12⟩ := by unfold lost; rw [if_neg (by omega), if_pos (by omega)]
          have en : lost life (q + 2) = ⟨2, life, 1, 12⟩ := by unfold lost; rw [if_neg (by omega), if_pos (by omega)]
          have Bo := B.out
          rw [eo] at Bo
          rw [if_neg (show ¬ (12 ≤ q) by omega), if_neg (show ¬ (q ≤ 3) by omega)]
          have C := tick_u wr g s _ (q + 2) Bo (by omega) (tick_doubt 2 life 1 12 (q + 2) (by omega) (by omega) (by omega) (by omega))
          rw [show ((q + 2 : Nat) : Int) = 2 + (q : Int) from by omega] at C
          have g1 : (5 : Int) ≤ 2 + (q : Int) := by omega
          have g2 : ¬ ((12 : Int) < 2 + (q : Int)) := by omega
          have Cx := hid C
          have En := hid en
          clear C eo en Bo
          go_wp2_with fail
          refine Cx.out.mono ?_
          rintro e w5 ⟨ga, gc, aa, ac, rfl, hg, ha, hB, hc, _⟩
          have B5 := hid hB
          have H5 := hid (HB.out.trans (hc.below HB.out.size Sg.out))
          clear hg ha hB hc
          go_wp2_with fail
          refine (state_calls w5 g s _ 0 B5.out (by omega)).mono ?_
          rintro e w' ⟨rfl, rfl⟩
          rw [show nodeAt [⟨2, life, 1, 12⟩] 0 = ⟨2, life, 1, 12⟩ from rfl]
          go_wp2_with fail
          have RR : GoRel (30 + more % 20) g s life w (.int .i64 0) (.int .u32 (12)) (.int .u32 ((q : Int) + 1)) w5 :=
            ⟨q + 1, by go_num, by omega, by rw [if_neg (by omega)], by rw [if_neg (by omega)], by rw [show q + 1 + 1 = q + 2 from rfl, En.out]; exact B5.out, H5.out⟩
          refine ⟨?_, by simp [intOf]; omega⟩
          first | exact RR | ((repeat apply Exists.intro); refine ⟨RR, ?_⟩; and_intros <;> rfl)
        by_cases q11 : q = 11
        · have qa : 11 ≤ q ∧ q ≤ 11 := by omega
          obtain ⟨qa, qb⟩ := qa
          have eo : lost life (q + 1) = ⟨2, life, 1, 12⟩ := by unfold lost; rw [if_neg (by omega), if_pos (by omega)]
          have en : lost life (q + 2) = ⟨0, life, 1, 12⟩ := by unfold lost; rw [if_neg (by omega), if_neg (by omega)]
          have Bo := B.out
          rw [eo] at Bo
          rw [if_neg (show ¬ (12 ≤ q) by omega), if_neg (show ¬ (q ≤ 3) by omega)]
          have C := tick_u wr g s _ (q + 2) Bo (by omega) (tick_away life 1 12 (q + 2) (by omega))
          rw [show ((q + 2 : Nat) : Int) = 2 + (q : Int) from by omega] at C
          have g1 : (5 : Int) ≤ 2 + (q : Int) := by omega
          have g2 : (12 : Int) < 2 + (q : Int) := by omega
          have g3 : (2 + (q : Int) != 13) = false := by simp; omega
          have Cx := hid C
          have En := hid en
          clear C eo en Bo q11
          go_wp2_with fail
          refine Cx.out.mono ?_
          rintro e w5 ⟨ga, gc, aa, ac, rfl, hg, ha, hB, hc, _⟩
          have B5 := hid hB
          have H5 := hid (HB.out.trans (hc.below HB.out.size Sg.out))
          clear hg ha hB hc
          go_wp2_with fail
          refine (state_calls w5 g s _ 0 B5.out (by omega)).mono ?_
          rintro e w' ⟨rfl, rfl⟩
          rw [show nodeAt [⟨0, life, 1, 12⟩] 0 = ⟨0, life, 1, 12⟩ from rfl]
          go_wp2_with fail
          have RR : GoRel (30 + more % 20) g s life w (.int .i64 1) (.int .u32 (12)) (.int .u32 ((q : Int) + 1)) w5 :=
            ⟨q + 1, by go_num, by omega, by rw [if_pos (by omega)], by rw [if_neg (by omega)], by rw [show q + 1 + 1 = q + 2 from rfl, En.out]; exact B5.out, H5.out⟩
          refine ⟨?_, by simp [intOf]; omega⟩
          first | exact RR | ((repeat apply Exists.intro); refine ⟨RR, ?_⟩; and_intros <;> rfl)
        · have eo : lost life (q + 1) = ⟨0, life, 1, 12⟩ := by unfold lost; rw [if_neg (by omega), if_neg (by omega)]
          have en : lost life (q + 2) = ⟨0, life, 1, 12⟩ := by unfold lost; rw [if_neg (by omega), if_neg (by omega)]
          have Bo := B.out
          rw [eo] at Bo
          rw [if_pos (show 12 ≤ q by omega), if_neg (show ¬ (q ≤ 3) by omega)]
          have C := tick_u wr g s _ (q + 2) Bo (by omega) (tick_still life 1 12 (q + 2))
          rw [show ((q + 2 : Nat) : Int) = 2 + (q : Int) from by omega] at C
          have g1 : (5 : Int) ≤ 2 + (q : Int) := by omega
          have g2 : (12 : Int) < 2 + (q : Int) := by omega
          have Cx := hid C
          have En := hid en
          clear C eo en Bo
          go_wp2_with fail
          refine Cx.out.mono ?_
          rintro e w5 ⟨ga, gc, aa, ac, rfl, hg, ha, hB, hc, _⟩
          have B5 := hid hB
          have H5 := hid (HB.out.trans (hc.below HB.out.size Sg.out))
          clear hg ha hB hc
          go_wp2_with fail
          refine (state_calls w5 g s _ 0 B5.out (by omega)).mono ?_
          rintro e w' ⟨rfl, rfl⟩
          rw [show nodeAt [⟨0, life, 1, 12⟩] 0 = ⟨0, life, 1, 12⟩ from rfl]
          go_wp2_with fail
          have RR : GoRel (30 + more % 20) g s life w (.int .i64 1) (.int .u32 (12)) (.int .u32 ((q : Int) + 1)) w5 :=
            ⟨q + 1, by go_num, by omega, by rw [if_pos (by omega)], by rw [if_neg (by omega)], by rw [show q + 1 + 1 = q + 2 from rfl, En.out]; exact B5.out, H5.out⟩
          refine ⟨?_, by simp [intOf]; omega⟩
          first | exact RR | ((repeat apply Exists.intro); refine ⟨RR, ?_⟩; and_intros <;> rfl)
      · have hqc' : ¬ ((q : Int) < 30 + (more : Int) % 20) := by omega
        rw [if_pos (show 12 ≤ q by omega), if_neg (show ¬ (q ≤ 3) by omega)]
        go_wp2_with fail
        go_ret
        exact ⟨rfl, HB.out⟩
end Go.Proofs.Ytolgfemjpkgloaa
