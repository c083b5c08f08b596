/- SlabPlays: every script has the document's answers. -/
import Derived.Test.YtoegnlabneafkaaPlA
import Derived.Deep.CutRange
import Derived.Deep.QuietTactic
import Derived.BigQuiet
import Derived.Deep.CutBlock
namespace Go.Proofs.Ytoegnlabneafkaa
open Go.RowKit Go.Quad _root_.Quad.Slab

theorem pmin140 (n : Nat) : (if 140 < (n : Int) then 140 else (n : Int)) = ((min n 140 : Nat) : Int) := by split <;> omega

def PlRel (wn : World) (B2 g d g2 dn dc n : Nat) (iv wr_ : Value) (wr : World) : Prop :=
  ∃ (k : Nat) (s : Sl), iv = .int .i64 (k : Int) ∧ k ≤ n ∧ k ≤ 60 ∧ Pl wn B2 g d g2 dn dc [] s s wr ∧ Few k s
def PlRel1 (wn : World) (B2 g d g2 dn dc n : Nat) (iv : Value) (wr : World) : Prop := PlRel wn B2 g d g2 dn dc n iv iv wr

def MidSt (wn : World) (B2 g d g2 dn dc q k : Nat) (X : List Nat) (w0 : World) (b : Value) (w : World) : Prop :=
  ∃ s : Sl, b = .bool true ∧ Pl wn B2 g d g2 dn dc X s s w ∧ Few (k + 1) s ∧ XKeep X w0 w

set_option maxRecDepth 20000 in
set_option maxHeartbeats 4000000 in
theorem slabPlays_walk (n : Int) (v1 : Value) (w : World) (hn : (Lit.int .i64 n).wf = true) (h1 : RV Try.prog w 35 v1) :
    Calls Try.prog 7 #[.int .i64 n, v1] w fun e w' => e = .returned (.bool true) ∧ Below w.heap.size w w' := by
  obtain ⟨a1, c1, l1, rfl, hok1, hcs1, hlc1⟩ := ops_open h1
  have hnb := bounds_i64 hn
  have m1 : l1.length ≤ 9223372036854775807 := by have := hcs1.max; unfold maxLen at this; omega
  have Hok := hid hok1
  have Hcs := hid hcs1
  obtain ⟨N, hN⟩ : ∃ N, (if 20 < n ∧ n ≤ 4096 then 20 else n) = N := ⟨_, rfl⟩
  have HN := hid hN
  clear h1 hn hok1 hcs1 hN
  go_enter Try.func7, Try.ntmps7
  go_wp2_with fail
  refine (awake_calls w).mono ?_
  rintro e w1 ⟨rfl, hb⟩
  have B1 := hid hb
  clear hb
  obtain ⟨b, hb⟩ : ∃ b, decide (20 < n ∧ n ≤ 4096) = b := ⟨_, rfl⟩
  have Hb := hid hb
  clear hb
  go_upto_region 3 with fail
  go_cut [32] from 27 to 32 (fun v w' => v = .bool b ∧ w1 = w')
  case first =>
    by_cases h20 : 20 < n
    · by_cases h40 : n ≤ 4096
      · go_wp2_with fail
        go_meet
        have R : Value.bool true = .bool b ∧ w1 = w1 := ⟨by rw [← Hb.out, decide_eq_true (show 20 < n ∧ n ≤ 4096 from ⟨h20, h40⟩)], rfl⟩
        first | exact R | ((repeat apply Exists.intro); refine ⟨R, ?_⟩; and_intros <;> rfl)
      · have h40' : decide (n ≤ 4096) = false := by simpa using h40
        go_wp2_with fail
        go_meet
        have R : Value.bool false = .bool b ∧ w1 = w1 := ⟨by rw [← Hb.out, decide_eq_false (fun h => by omega)], rfl⟩
        first | exact R | ((repeat apply Exists.intro); refine ⟨R, ?_⟩; and_intros <;> rfl)
    · have h20' : decide (20 < n) = false := by simpa using h20
      go_wp2_with fail
      go_meet
      have R : Value.bool false = .bool b ∧ w1 = w1 := ⟨by rw [← Hb.out, decide_eq_false (fun h => by omega)], rfl⟩
      first | exact R | ((repeat apply Exists.intro); refine ⟨R, ?_⟩; and_intros <;> rfl)
  case rest =>
  obtain ⟨rfl, rfl⟩ := hcut
  go_upto_if 32 with fail
  go_cut [0] from 32 to 32 (fun v w' => v = .int .i64 N ∧ w1 = w')
  case first =>
    cases b
    · have e : n = N := by rw [← HN.out, if_neg (of_decide_eq_false Hb.out)]
      have He := hid e
      clear e
      go_wp2_with fail
      go_meet
      have R : Value.int .i64 n = .int .i64 N ∧ w1 = w1 := ⟨by rw [He.out], rfl⟩
      first | exact R | ((repeat apply Exists.intro); refine ⟨R, ?_⟩; and_intros <;> rfl)
    · have e : 20 = N := by rw [← HN.out, if_pos (of_decide_eq_true Hb.out)]
      have He := hid e
      clear e
      go_wp2_with fail
      go_meet
      have R : Value.int .i64 20 = .int .i64 N ∧ w1 = w1 := ⟨by rw [He.out], rfl⟩
      first | exact R | ((repeat apply Exists.intro); refine ⟨R, ?_⟩; and_intros <;> rfl)
  case rest =>
    obtain ⟨rfl, rfl⟩ := hcut
    by_cases hbad : N < 1 ∨ 4096 < N
    · as_aux_lemma =>
      go_wp2_with fail
      refine (newslabnil_calls w1 N hbad).mono ?_
      rintro e w2 ⟨rfl, rfl⟩
      go_wp2_with fail
      refine (rnewno_calls _ N hbad).mono ?_
      rintro e w3 ⟨rfl, rfl⟩
      go_wp2_with fail
      go_loopw [55] (fun iv wr => BadRel w l1.length iv wr) (fun iv _ => l1.length - (intOf iv).toNat)
      case atStart => exact ⟨0, rfl, Nat.zero_le _, by omega, B1.out⟩
      case round =>
        obtain ⟨k, rfl, hk, hk60, hT⟩ := hrel
        have T := hid hT
        clear hT
        by_cases hkl : k < l1.length
        · have Ho := hid (Hok.out _ (List.getElem_mem hkl))
          obtain ⟨bo, off, rfl, hc⟩ := cs_row opV_length Hcs.out hkl (by decide)
          have d0 := cell_later T.out (hc 0 _ rfl)
          have d1 := cell_later T.out (hc 1 _ rfl)
          have d2 := cell_later T.out (hc 2 _ rfl)
          clear hc
          generalize l1[k] = o at Ho d0 d1 d2
          have hkl' : (k : Int) < (l1.length : Int) := by omega
          rw [Nat.add_zero] at d0
          obtain ⟨dd, i, ao, co, t⟩ := o
          dsimp only at d0 d1 d2
          by_cases h60 : k < 60
          · have h60' : ¬ ((60 : Int) ≤ (k : Int)) := by omega
            obtain ⟨hd, hi, ht⟩ := Ho.out
            dsimp only at hd hi ht
            have mt := ht.max'
            have Ht := hid ht
            obtain ⟨kt, hkt⟩ : ∃ kt, min t.length 140 = kt := ⟨_, rfl⟩
            have Hkt := hid ((pmin140 t.length).trans (by rw [hkt]))
            have hkt2 : kt ≤ t.length ∧ kt ≤ co ∧ kt ≤ 140 := by have := ht.fit'; omega
            clear ht Ho hkt
            have hkt' := Hkt.out
            have hdd : (dd : Int) ≤ 255 := by omega
            have Bq0 := hid (blk_alloc wr [.int .u8 (dd : Int), .int .i64 i, .slice ao t.length co] 39)
            have bq0 := hid (below_alloc wr (.cells #[.int .u8 (dd : Int), .int .i64 i, .slice ao t.length co] 39))
            have lq0 := hid (show wr.heap.size < (wr.alloc (.cells #[.int .u8 (dd : Int), .int .i64 i, .slice ao t.length co] 39)).heap.size from by simp)
            have Lt := hid (show (t.take kt).length = kt from by rw [List.length_take]; omega)
            have Pt := hid (show BS w ao co (t.take kt) from Ht.out.take kt)
            go_upto_block 2 with (at_builtin; go_must (refine wpList_append_lit0 (.tmp 69) (.tmp 70) _ rfl rfl 5 info_u8 under_bytes (show _ = Value.slice (some ⟨_, 0, none⟩) 0 0 from congrArg (fun z => Value.slice (some ⟨z, 0, none⟩) 0 0) (show wr.heap.size + 1 = _ from by simp)) (Pt.out.below (T.out.trans (bq0.out.mono T.out.size))) kt Lt.out rfl (by rw [Lt.out]; omega) ?_; intro v3 w3 ho hb; obtain ⟨am, cm, e3, hbs, hof⟩ := ho.bs; rw [Lt.out] at e3; subst e3; have Om := hid ho; have B3 := hid hb; have q0 := (Bq0.out.below hb).get 0 rfl; clear hbs hof hb ho))
            have Q4 := hid (Bq0.out.below B3.out)
            have T4 := hid (T.out.trans ((bq0.out.trans (B3.out.mono bq0.out.size)).mono T.out.size))
            have hmb : w.heap.size ≤ (wr.alloc (.cells #[.int .u8 (dd : Int), .int .i64 i, .slice ao t.length co] 39)).heap.size := Nat.le_trans T.out.size bq0.out.size
            have Pt4 := hid (Pt.out.below T4.out)
            generalize (wr.alloc (.cells #[.int .u8 (dd : Int), .int .i64 i, .slice ao t.length co] 39)).heap.size = bm at Om B3 hmb
            obtain ⟨q, hq⟩ : ∃ q, wr.heap.size = q := ⟨_, rfl⟩
            rw [hq] at Q4 ⊢
            generalize t.take kt = p at Om Lt Pt Pt4
            clear hq d0 d1 d2 q0 Bq0 bq0 lq0 hkt' B3
            obtain ⟨w4, rfl⟩ : ∃ w4 : World, w4 = w3 := ⟨_, rfl⟩
            go_cut [13] from 57 to 155 (fun b w' => MidBad w4 b w')
            case first =>
              have hcs : dd = 0 ∨ dd = 1 ∨ dd = 2 ∨ dd = 3 ∨ dd = 4 ∨ dd = 5 ∨ dd = 6 ∨ 7 ≤ dd := by omega
              rcases hcs with h | h | h | h | h | h | h | h
              · as_aux_lemma =>
                have e0 : ((dd : Int) == 0) = true := by rw [beq_iff_eq]; omega
                have e1 : ((dd : Int) == 1) = false := by rw [beq_eq_false_iff_ne]; omega
                have e2 : ((dd : Int) == 2) = false := by rw [beq_eq_false_iff_ne]; omega
                have e3 : ((dd : Int) == 3) = false := by rw [beq_eq_false_iff_ne]; omega
                have e4 : ((dd : Int) == 4) = false := by rw [beq_eq_false_iff_ne]; omega
                have e5 : ((dd : Int) == 5) = false := by rw [beq_eq_false_iff_ne]; omega
                have e6 : ((dd : Int) == 6) = false := by rw [beq_eq_false_iff_ne]; omega
                have q1 := Q4.out.get 1 rfl
                go_upto_region 20 with fail
                go_quiet (first | exact Calls.quiet_of_same (qwrite _ _ _ _ _) | exact Calls.quiet_of_same (qput _ _ _ _ _))
                clear q1
                go_wp2_with fail
                go_meet
                have R9 : MidBad w4 (.bool true) (w4.drewN nq) := ⟨rfl, below_drewN (Below.refl _ _) nq⟩
                first | exact R9 | ((repeat apply Exists.intro); refine ⟨R9, ?_⟩; and_intros <;> rfl)
              · as_aux_lemma =>
                have e0 : ((dd : Int) == 0) = false := by rw [beq_eq_false_iff_ne]; omega
                have e1 : ((dd : Int) == 1) = true := by rw [beq_iff_eq]; omega
                have e2 : ((dd : Int) == 2) = false := by rw [beq_eq_false_iff_ne]; omega
                have e3 : ((dd : Int) == 3) = false := by rw [beq_eq_false_iff_ne]; omega
                have e4 : ((dd : Int) == 4) = false := by rw [beq_eq_false_iff_ne]; omega
                have e5 : ((dd : Int) == 5) = false := by rw [beq_eq_false_iff_ne]; omega
                have e6 : ((dd : Int) == 6) = false := by rw [beq_eq_false_iff_ne]; omega
                have q1 := Q4.out.get 1 rfl
                go_upto_region 20 with fail
                go_quiet (first | exact Calls.quiet_of_same (qwrite _ _ _ _ _) | exact Calls.quiet_of_same (qput _ _ _ _ _))
                clear q1
                go_wp2_with fail
                go_meet
                have R9 : MidBad w4 (.bool true) (w4.drewN nq) := ⟨rfl, below_drewN (Below.refl _ _) nq⟩
                first | exact R9 | ((repeat apply Exists.intro); refine ⟨R9, ?_⟩; and_intros <;> rfl)
              · as_aux_lemma =>
                have e0 : ((dd : Int) == 0) = false := by rw [beq_eq_false_iff_ne]; omega
                have e1 : ((dd : Int) == 1) = false := by rw [beq_eq_false_iff_ne]; omega
                have e2 : ((dd : Int) == 2) = true := by rw [beq_iff_eq]; omega
                have e3 : ((dd : Int) == 3) = false := by rw [beq_eq_false_iff_ne]; omega
                have e4 : ((dd : Int) == 4) = false := by rw [beq_eq_false_iff_ne]; omega
                have e5 : ((dd : Int) == 5) = false := by rw [beq_eq_false_iff_ne]; omega
                have e6 : ((dd : Int) == 6) = false := by rw [beq_eq_false_iff_ne]; omega
                have q1 := Q4.out.get 1 rfl
                go_upto_region 20 with fail
                go_quiet (first | exact Calls.quiet_of_same (qwrite _ _ _ _ _) | exact Calls.quiet_of_same (qput _ _ _ _ _))
                clear q1
                go_wp2_with fail
                go_meet
                have R9 : MidBad w4 (.bool true) (w4.drewN nq) := ⟨rfl, below_drewN (Below.refl _ _) nq⟩
                first | exact R9 | ((repeat apply Exists.intro); refine ⟨R9, ?_⟩; and_intros <;> rfl)
              · as_aux_lemma =>
                have e0 : ((dd : Int) == 0) = false := by rw [beq_eq_false_iff_ne]; omega
                have e1 : ((dd : Int) == 1) = false := by rw [beq_eq_false_iff_ne]; omega
                have e2 : ((dd : Int) == 2) = false := by rw [beq_eq_false_iff_ne]; omega
                have e3 : ((dd : Int) == 3) = true := by rw [beq_iff_eq]; omega
                have e4 : ((dd : Int) == 4) = false := by rw [beq_eq_false_iff_ne]; omega
                have e5 : ((dd : Int) == 5) = false := by rw [beq_eq_false_iff_ne]; omega
                have e6 : ((dd : Int) == 6) = false := by rw [beq_eq_false_iff_ne]; omega
                have q1 := Q4.out.get 1 rfl
                go_wp2_with fail
                refine (nilread_calls _ _).mono ?_
                rintro e w5 ⟨rfl, rfl⟩
                go_wp2_with fail
                refine (nilrget_calls _ _).mono ?_
                rintro e w6 ⟨rfl, rfl⟩
                clear q1
                go_wp2_with fail
                refine (same_calls none none 0 0 [] [] _ (BS.nil _) (BS.nil _)).mono ?_
                rintro e w7 ⟨rfl, rfl⟩
                rw [beq_self_eq_true]
                go_wp2_with fail
                go_loopw [115] (fun iv w' => iv = .int .i64 0 ∧ w4 = w') (fun _ _ => 0)
                case atStart => exact ⟨rfl, rfl⟩
                case round =>
                  obtain ⟨rfl, rfl⟩ := hrel
                  go_wp2_with fail
                  go_meet
                  have R9 : MidBad w4 (.bool true) (w4) := ⟨rfl, Below.refl _ _⟩
                  first | exact R9 | ((repeat apply Exists.intro); refine ⟨R9, ?_⟩; and_intros <;> rfl)
              · as_aux_lemma =>
                have e0 : ((dd : Int) == 0) = false := by rw [beq_eq_false_iff_ne]; omega
                have e1 : ((dd : Int) == 1) = false := by rw [beq_eq_false_iff_ne]; omega
                have e2 : ((dd : Int) == 2) = false := by rw [beq_eq_false_iff_ne]; omega
                have e3 : ((dd : Int) == 3) = false := by rw [beq_eq_false_iff_ne]; omega
                have e4 : ((dd : Int) == 4) = true := by rw [beq_iff_eq]; omega
                have e5 : ((dd : Int) == 5) = false := by rw [beq_eq_false_iff_ne]; omega
                have e6 : ((dd : Int) == 6) = false := by rw [beq_eq_false_iff_ne]; omega
                go_wp2_with fail
                refine (nilflush_calls _).mono ?_
                rintro e w5 ⟨rfl, rfl⟩
                go_wp2_with fail
                refine (nilrflush_calls _).mono ?_
                rintro e w6 ⟨rfl, rfl⟩
                go_wp2_with fail
                go_meet
                have R9 : MidBad w4 (.bool true) (w4) := ⟨rfl, Below.refl _ _⟩
                first | exact R9 | ((repeat apply Exists.intro); refine ⟨R9, ?_⟩; and_intros <;> rfl)
              · as_aux_lemma =>
                have e0 : ((dd : Int) == 0) = false := by rw [beq_eq_false_iff_ne]; omega
                have e1 : ((dd : Int) == 1) = false := by rw [beq_eq_false_iff_ne]; omega
                have e2 : ((dd : Int) == 2) = false := by rw [beq_eq_false_iff_ne]; omega
                have e3 : ((dd : Int) == 3) = false := by rw [beq_eq_false_iff_ne]; omega
                have e4 : ((dd : Int) == 4) = false := by rw [beq_eq_false_iff_ne]; omega
                have e5 : ((dd : Int) == 5) = true := by rw [beq_iff_eq]; omega
                have e6 : ((dd : Int) == 6) = false := by rw [beq_eq_false_iff_ne]; omega
                have q1 := Q4.out.get 1 rfl
                go_upto_region 33 with fail
                go_quiet (first | exact Calls.quiet_of_same (qarm _ _) | exact Calls.quiet_of_same (qrarm _ _))
                clear q1
                go_wp2_with fail
                go_meet
                have R9 : MidBad w4 (.bool true) (w4.drewN nq) := ⟨rfl, below_drewN (Below.refl _ _) nq⟩
                first | exact R9 | ((repeat apply Exists.intro); refine ⟨R9, ?_⟩; and_intros <;> rfl)
              · as_aux_lemma =>
                have e0 : ((dd : Int) == 0) = false := by rw [beq_eq_false_iff_ne]; omega
                have e1 : ((dd : Int) == 1) = false := by rw [beq_eq_false_iff_ne]; omega
                have e2 : ((dd : Int) == 2) = false := by rw [beq_eq_false_iff_ne]; omega
                have e3 : ((dd : Int) == 3) = false := by rw [beq_eq_false_iff_ne]; omega
                have e4 : ((dd : Int) == 4) = false := by rw [beq_eq_false_iff_ne]; omega
                have e5 : ((dd : Int) == 5) = false := by rw [beq_eq_false_iff_ne]; omega
                have e6 : ((dd : Int) == 6) = true := by rw [beq_iff_eq]; omega
                have q1 := Q4.out.get 1 rfl
                go_upto_region 35 with fail
                go_quiet (first | exact Calls.quiet_of_same (qcrash _ _ _) | exact Calls.quiet_of_same (qrcrash _ _ _))
                clear q1
                go_wp2_with fail
                go_meet
                have R9 : MidBad w4 (.bool true) (w4.drewN nq) := ⟨rfl, below_drewN (Below.refl _ _) nq⟩
                first | exact R9 | ((repeat apply Exists.intro); refine ⟨R9, ?_⟩; and_intros <;> rfl)
              · as_aux_lemma =>
                have e0 : ((dd : Int) == 0) = false := by rw [beq_eq_false_iff_ne]; omega
                have e1 : ((dd : Int) == 1) = false := by rw [beq_eq_false_iff_ne]; omega
                have e2 : ((dd : Int) == 2) = false := by rw [beq_eq_false_iff_ne]; omega
                have e3 : ((dd : Int) == 3) = false := by rw [beq_eq_false_iff_ne]; omega
                have e4 : ((dd : Int) == 4) = false := by rw [beq_eq_false_iff_ne]; omega
                have e5 : ((dd : Int) == 5) = false := by rw [beq_eq_false_iff_ne]; omega
                have e6 : ((dd : Int) == 6) = false := by rw [beq_eq_false_iff_ne]; omega
                go_wp2_with fail
                go_meet
                have R9 : MidBad w4 (.bool true) (w4) := ⟨rfl, Below.refl _ _⟩
                first | exact R9 | ((repeat apply Exists.intro); refine ⟨R9, ?_⟩; and_intros <;> rfl)
            case rest =>
              obtain ⟨e13, hb⟩ := hcut
              subst e13
              have B5 := hid hb
              have O5 := hid (OB.below Om.out hb)
              obtain ⟨am', cm', e, hbs, _⟩ := O5.out.bs
              rw [Lt.out] at e
              simp only [Value.slice.injEq] at e
              obtain ⟨rfl, _, rfl⟩ := e
              have C := same_calls am ao cm co p p wc hbs (Pt4.out.below hb)
              rw [Lt.out, beq_self_eq_true] at C
              have Tw := hid (T4.out.trans (hb.mono T4.out.size))
              clear hb hbs
              go_wp2_with fail
              refine C.mono ?_
              rintro e w7 ⟨rfl, rfl⟩
              clear C
              go_wp2_with fail
              have X0 := hid (xor_start (P := fun w' => Below w.heap.size w w') O5.out Tw.out)
              go_loopw [166] (fun iv w' => XorRel (fun w' => Below w.heap.size w w') bm (.slice am kt cm) p iv w') (fun iv _ => p.length - (intOf iv).toNat)
              case atStart => exact X0.out
              case round =>
                obtain ⟨j, xs, rfl, hj, hR, hx, hbl⟩ := hrel
                have lt := Lt.out
                by_cases hjl : j < p.length
                · have hjl' : (j : Int) < (kt : Int) := by omega
                  obtain ⟨bx, cx, xx, ex, q1, q2, q3, q4, q5⟩ := xor_at (P := fun w' => Below w.heap.size w w') hjl hR hx
                  rw [lt] at ex
                  simp only [Value.slice.injEq] at ex
                  obtain ⟨rfl, _, rfl⟩ := ex
                  have Q5 := hid q5
                  have Bl := hid hbl
                  have q4' := Nat.le_trans hmb q4
                  clear q5 hbl hR hx lt
                  go_wp2_with fail
                  refine ⟨?_, by simp [intOf]; omega⟩
                  first | exact Q5.out _ (Bl.out.setCell q4' _) | ((repeat apply Exists.intro); refine ⟨Q5.out _ (Bl.out.setCell q4' _), ?_⟩; and_intros <;> rfl)
                · have hjk : j = kt := by omega
                  subst hjk
                  have hjl' : ¬ ((j : Int) < (j : Int)) := by omega
                  have T6 := hid hbl
                  clear hR hx hbl lt
                  obtain ⟨w8, rfl⟩ : ∃ w8 : World, w8 = wr := ⟨_, rfl⟩
                  go_wp2_with fail
                  refine (nillen_calls _).mono ?_
                  rintro e w9 ⟨rfl, rfl⟩
                  go_wp2_with fail
                  refine (nilon_calls _).mono ?_
                  rintro e w9 ⟨rfl, rfl⟩
                  go_wp2_with fail
                  refine (nilsteps_calls _).mono ?_
                  rintro e w9 ⟨rfl, rfl⟩
                  go_wp2_with fail
                  refine (nilway_calls _).mono ?_
                  rintro e w9 ⟨rfl, rfl⟩
                  go_wp2_with fail
                  refine ⟨?_, by simp [intOf]; omega⟩
                  have R9 : BadRel w l1.length (.int .i64 ((k : Int) + 1)) w8 := ⟨k + 1, by go_num, by omega, by omega, T6.out⟩
                  first | exact R9 | ((repeat apply Exists.intro); refine ⟨R9, ?_⟩; and_intros <;> rfl)
          · have h60'' : (60 : Int) ≤ (k : Int) := by omega
            go_wp2_with fail
            go_ret
            exact ⟨rfl, T.out.trans ((below_alloc wr _).mono T.out.size)⟩
        · have h60' : ¬ ((k : Int) < (l1.length : Int)) := by omega
          go_wp2_with fail
          go_ret
          exact ⟨rfl, T.out⟩
    · have hN20 : 1 ≤ N ∧ N ≤ 20 := by have := HN.out; split at this <;> omega
      obtain ⟨nn, rfl⟩ : ∃ nn : Nat, N = nn := ⟨N.toNat, by omega⟩
      have hnn : 1 ≤ nn ∧ nn ≤ 4096 := by omega
      go_wp2_with fail
      refine (newslab_calls w1 nn hnn).mono ?_
      rintro e w2 ⟨g, d, rfl, hS, hb2⟩
      have S2 := hid hS
      have B2x := hid hb2
      clear hS hb2
      go_wp2_with fail
      refine (rnew_calls w2 nn hnn).mono ?_
      rintro e w3 ⟨g2, dn, dc, rfl, hR, hb3⟩
      have P0 : Kept (Pl w1 w2.heap.size g d g2 dn dc [] (newL nn) (newL nn) w3) := ⟨⟨_, _, _, S2.out.below hb3, hR, fun k hk hf => by have := (S2.out.in_ge k hk).2; omega, by simp⟩, B2x.out.trans (hb3.mono B2x.out.size), B2x.out.size⟩
      have Fw : Kept (Few 0 (newL nn)) := ⟨by simp [newL], by simp [newL], by simp [newL]; omega⟩
      obtain ⟨wn, hwn⟩ : ∃ wn : World, wn = w1 := ⟨_, rfl⟩
      obtain ⟨B2, hB2⟩ : ∃ B2, w2.heap.size = B2 := ⟨_, rfl⟩
      rw [← hwn, hB2] at P0
      have Bn := hid (show Below w.heap.size w wn from by rw [hwn]; exact B1.out)
      clear hR hb3 hwn hB2 S2 B2x
      go_wp2_with fail
      go_loopw [55] (fun iv wr => PlRel1 wn B2 g d g2 dn dc l1.length iv wr) (fun iv _ => l1.length - (intOf iv).toNat)
      case atStart => exact ⟨0, _, rfl, Nat.zero_le _, by omega, P0.out, Fw.out⟩
      case round =>
        obtain ⟨k, s, rfl, hk, hk60, hP, hF⟩ := hrel
        have T := hid hP
        have Fs := hid hF
        clear hP hF
        by_cases hgo : k < l1.length ∧ k < 60
        · obtain ⟨hkl, h60⟩ := hgo
          have Ho := hid (Hok.out _ (List.getElem_mem hkl))
          obtain ⟨bo, off, rfl, hc⟩ := cs_row opV_length Hcs.out hkl (by decide)
          have W5 := Bn.out.trans (T.out.bel.mono Bn.out.size)
          have d0 := cell_later W5 (hc 0 _ rfl)
          have d1 := cell_later W5 (hc 1 _ rfl)
          have d2 := cell_later W5 (hc 2 _ rfl)
          have Wr := hid W5
          clear hc W5
          generalize l1[k] = o at Ho d0 d1 d2
          have hkl' : (k : Int) < (l1.length : Int) := by omega
          have h60' : ¬ ((60 : Int) ≤ (k : Int)) := by omega
          rw [Nat.add_zero] at d0
          obtain ⟨dd, i, ao, co, t⟩ := o
          dsimp only at d0 d1 d2
          obtain ⟨hd, hi, ht⟩ := Ho.out
          dsimp only at hd hi ht
          have mt := ht.max'
          have Ht := hid ht
          obtain ⟨kt, hkt⟩ : ∃ kt, min t.length 140 = kt := ⟨_, rfl⟩
          have Hkt := hid ((pmin140 t.length).trans (by rw [hkt]))
          have hkt2 : kt ≤ t.length ∧ kt ≤ co ∧ kt ≤ 140 := by have := ht.fit'; omega
          clear ht Ho hkt
          have hkt' := Hkt.out
          have hdd : (dd : Int) ≤ 255 := by omega
          have Bq0 := hid (blk_alloc wr [.int .u8 (dd : Int), .int .i64 i, .slice ao t.length co] 39)
          have bq0 := hid (below_alloc wr (.cells #[.int .u8 (dd : Int), .int .i64 i, .slice ao t.length co] 39))
          have lq0 := hid (show wr.heap.size < (wr.alloc (.cells #[.int .u8 (dd : Int), .int .i64 i, .slice ao t.length co] 39)).heap.size from by simp)
          have Lt := hid (show (t.take kt).length = kt from by rw [List.length_take]; omega)
          have Pt := hid (show BS w ao co (t.take kt) from Ht.out.take kt)
          go_upto_block 2 with (at_builtin; go_must (refine wpList_append_lit0 (.tmp 69) (.tmp 70) _ rfl rfl 5 info_u8 under_bytes (show _ = Value.slice (some ⟨_, 0, none⟩) 0 0 from congrArg (fun z => Value.slice (some ⟨z, 0, none⟩) 0 0) (show wr.heap.size + 1 = _ from by simp)) (Pt.out.below (Wr.out.trans (bq0.out.mono Wr.out.size))) kt Lt.out rfl (by rw [Lt.out]; omega) ?_; intro v3 w3 ho hb; obtain ⟨am, cm, e3, hbs, hof⟩ := ho.bs; rw [Lt.out] at e3; subst e3; have Om := hid ho; have B3 := hid hb; have q0 := (Bq0.out.below hb).get 0 rfl; clear hbs hof hb ho))
          obtain ⟨q, hq⟩ : ∃ q, wr.heap.size = q := ⟨_, rfl⟩
          have T4 := hid ((T.out.more bq0.out wr.heap.size (Nat.le_refl _) lq0.out).moreL (L := (Value.slice am kt cm).ownBlock.toList) B3.out (fun x hx => World.ownsRow.lt Om.out x (by simpa using hx)))
          have Q4 := hid (Bq0.out.below B3.out)
          rw [hq] at T4 Q4 ⊢
          have Pt4 := hid (Pt.out.below (Wr.out.trans ((bq0.out.trans (B3.out.mono bq0.out.size)).mono Wr.out.size)))
          have hmb : wn.heap.size ≤ (wr.alloc (.cells #[.int .u8 (dd : Int), .int .i64 i, .slice ao t.length co] 39)).heap.size := Nat.le_trans T.out.bel.size bq0.out.size
          generalize (wr.alloc (.cells #[.int .u8 (dd : Int), .int .i64 i, .slice ao t.length co] 39)).heap.size = bm at Om B3 hmb
          generalize t.take kt = p at Om Lt Pt Pt4
          obtain ⟨X, hX⟩ : ∃ X, q :: [] ++ (Value.slice am kt cm).ownBlock.toList = X := ⟨_, rfl⟩
          rw [hX] at T4
          have Xq := hid (show q ∈ X from by rw [← hX]; simp)
          have Xm := hid (show ∀ k, (Value.slice am kt cm).ownBlock = some k → k ∈ X from fun k hk => by rw [← hX]; simp [hk])
          clear hX hq d0 d1 d2 q0 Bq0 bq0 lq0 hkt' B3
          obtain ⟨w4, rfl⟩ : ∃ w4 : World, w4 = w3 := ⟨_, rfl⟩
          go_cut [13] from 57 to 155 (fun b w' => MidSt wn B2 g d g2 dn dc q k X w4 b w')
          case first =>
            have hcs : dd = 0 ∨ dd = 1 ∨ dd = 2 ∨ dd = 3 ∨ dd = 4 ∨ dd = 5 ∨ dd = 6 ∨ 7 ≤ dd := by omega
            rcases hcs with h | h | h | h | h | h | h | h
            · as_aux_lemma =>
              have e0 : ((dd : Int) == 0) = true := by rw [beq_iff_eq]; omega
              have e1 : ((dd : Int) == 1) = false := by rw [beq_eq_false_iff_ne]; omega
              have e2 : ((dd : Int) == 2) = false := by rw [beq_eq_false_iff_ne]; omega
              have e3 : ((dd : Int) == 3) = false := by rw [beq_eq_false_iff_ne]; omega
              have e4 : ((dd : Int) == 4) = false := by rw [beq_eq_false_iff_ne]; omega
              have e5 : ((dd : Int) == 5) = false := by rw [beq_eq_false_iff_ne]; omega
              have e6 : ((dd : Int) == 6) = false := by rw [beq_eq_false_iff_ne]; omega
              go_upto_region 20 with fail
              refine wp_region_st 14 2 [.r 0 2, .r 0 2, .r 0 2, .r 0 2, .w 0, .r 0 2, .r 0 2, .r 0 2, .r 0 2, .w 1, .r 0 2] (fun ph w' => Pl wn B2 g d g2 dn dc X (match ph with | 0 => s | _ => (writeL s i p).1) (match ph with | 0 => s | 1 => s | _ => (writeL s i p).1) w' ∧ XKeep X w4 w') (fun _ _ => True) (fun idx v w' => match idx with
                | 0 => v = .pointer (some ⟨g, 0, none⟩)
                | 1 | 6 => v = .pointer (some ⟨q, 1, none⟩)
                | 2 | 7 => v = .int .i64 i
                | 3 => v = .slice am kt cm
                | 4 | 9 => v = .int .i64 ((writeL s i p).2 : Int)
                | 5 => v = .pointer (some ⟨g2, 0, none⟩)
                | 8 => v = .slice ao kt co
                | 10 => v = .bool true
                | _ => True) (by kernel_rfl) (by kernel_rfl) (by kernel_rfl) (by kernel_rfl) ?_ ?_ ?_ ?_ ?_ ?_
              · intro j v wx wy hR hb
                match j, hR with
                | 0, hR | 1, hR | 6, hR | 2, hR | 7, hR | 3, hR | 4, hR | 9, hR | 5, hR | 8, hR | 10, hR => exact hR
                | _ + 11, _ => trivial
              · intro j v wx wy hR hb
                match j, hR with
                | 0, hR | 1, hR | 6, hR | 2, hR | 7, hR | 3, hR | 4, hR | 9, hR | 5, hR | 8, hR | 10, hR => exact hR
                | _ + 11, _ => trivial
              · intro ph wx wy hS hb
                exact ⟨hS.1.below hb, hS.2.trans (hS.1.keepX hb)⟩
              · exact ⟨T4.out.below (below_drew _), T4.out.keepX (below_drew _)⟩
              · refine ⟨?_, ?_, ?_, ?_, ?_, ?_, ?_, ?_, ?_, ?_, ?_, trivial⟩
                all_goals intro ρ wx hc hg hf
                · intro ph _ _ hS
                  intro h0; exact opOk_move _ rfl ⟨Below.refl _ _, h0⟩
                · intro ph _ _ hS
                  intro (h0 : ρ (.tmp 10) = .pointer (some ⟨q, 0, none⟩))
                  exact opOk_run (v := .pointer (some ⟨q, 1, none⟩)) (w' := wx) (by go_simp) ⟨Below.refl _ _, rfl⟩
                · intro ph _ _ hS
                  intro (h0 : ρ (.tmp 79) = .pointer (some ⟨q, 1, none⟩))
                  have c := (Blk.x Q4.out hS.2 Xq.out).get 1 rfl
                  exact opOk_load _ _ rfl _ _ h0 (run_int_at _ _ _ _ c) ⟨Below.refl _ _, rfl⟩
                · intro ph _ _ hS
                  intro h0; exact opOk_move _ rfl ⟨Below.refl _ _, h0⟩
                · intro hS
                  intro (h0 : ρ (.tmp 78) = .pointer (some ⟨g, 0, none⟩)) (h1 : ρ (.tmp 80) = .int .i64 i) (h2 : ρ (.tmp 81) = .slice am kt cm)
                  obtain ⟨b1, b2, b3⟩ := ob_arg (wn := wn) (OB.x Om.out hS.2 Xm.out) Xm.out
                  refine opOk_call (f := 10) (args := #[.pointer (some ⟨g, 0, none⟩), .int .i64 i, .slice am kt cm]) (by go_simp) ?_
                  refine (pl_write hS.1 i am cm kt p hi b1 b2 (by have := Fs.out.1; show s.steps < _; omega) (by have := Fs.out.2.1; show s.way.length < _; omega) b3).mono ?_
                  rintro e w7 ⟨rfl, h7, k7⟩
                  exact ⟨_, rfl, trivial, ⟨h7, hS.2.trans k7⟩, rfl⟩
                · intro ph _ _ hS
                  intro h0; exact opOk_move _ rfl ⟨Below.refl _ _, h0⟩
                · intro ph _ _ hS
                  intro (h0 : ρ (.tmp 10) = .pointer (some ⟨q, 0, none⟩))
                  exact opOk_run (v := .pointer (some ⟨q, 1, none⟩)) (w' := wx) (by go_simp) ⟨Below.refl _ _, rfl⟩
                · intro ph _ _ hS
                  intro (h0 : ρ (.tmp 84) = .pointer (some ⟨q, 1, none⟩))
                  have c := (Blk.x Q4.out hS.2 Xq.out).get 1 rfl
                  exact opOk_load _ _ rfl _ _ h0 (run_int_at _ _ _ _ c) ⟨Below.refl _ _, rfl⟩
                · intro ph _ _ hS
                  intro h0; exact opOk_move _ rfl ⟨Below.refl _ _, h0⟩
                · intro hS
                  intro (h0 : ρ (.tmp 83) = .pointer (some ⟨g2, 0, none⟩)) (h1 : ρ (.tmp 85) = .int .i64 i) (h2 : ρ (.tmp 86) = .slice ao kt co)
                  refine opOk_call (f := 20) (args := #[.pointer (some ⟨g2, 0, none⟩), .int .i64 i, .slice ao kt co]) (by go_simp) ?_
                  refine (pl_put hS.1 i ao co kt p hi (Pt.out.below (Bn.out.trans (hS.1.bel.mono Bn.out.size))) Lt.out (by have := Fs.out.1; show s.steps < _; omega) (by have := Fs.out.2.1; show s.way.length < _; omega) (offX_old Pt.out Bn.out.size)).mono ?_
                  rintro e w7 ⟨rfl, h7, k7⟩
                  exact ⟨_, rfl, trivial, ⟨h7, hS.2.trans k7⟩, rfl⟩
                · intro ph _ _ hS
                  intro (h0 : ρ (.tmp 82) = .int .i64 ((writeL s i p).2 : Int)) (h1 : ρ (.tmp 87) = .int .i64 ((writeL s i p).2 : Int))
                  exact opOk_run (v := .bool true) (w' := wx) (by go_simp) ⟨Below.refl _ _, rfl⟩
              · intro wz hS
                rintro _ rfl _ rfl _ rfl _ rfl _ rfl _ rfl _ rfl _ rfl _ rfl _ rfl _ rfl
                simp only [PutLast, Act.put, List.setIfInBounds_toArray, List.set_cons_succ, List.set_cons_zero]
                refine opOk_assignV (.tmp 88) (.bool true) rfl rfl ?_
                have hS9 := hid (show Pl wn B2 g d g2 dn dc X ((writeL s i p).1) ((writeL s i p).1) wz ∧ XKeep X w4 wz from hS)
                clear hS
                go_wp2_with fail
                go_meet
                have R9 : MidSt wn B2 g d g2 dn dc q k X w4 (.bool true) wz := ⟨_, rfl, hS9.out.1, Fs.out.write i p, hS9.out.2⟩
                first | exact R9 | ((repeat apply Exists.intro); refine ⟨R9, ?_⟩; and_intros <;> rfl)
            · as_aux_lemma =>
              have e0 : ((dd : Int) == 0) = false := by rw [beq_eq_false_iff_ne]; omega
              have e1 : ((dd : Int) == 1) = true := by rw [beq_iff_eq]; omega
              have e2 : ((dd : Int) == 2) = false := by rw [beq_eq_false_iff_ne]; omega
              have e3 : ((dd : Int) == 3) = false := by rw [beq_eq_false_iff_ne]; omega
              have e4 : ((dd : Int) == 4) = false := by rw [beq_eq_false_iff_ne]; omega
              have e5 : ((dd : Int) == 5) = false := by rw [beq_eq_false_iff_ne]; omega
              have e6 : ((dd : Int) == 6) = false := by rw [beq_eq_false_iff_ne]; omega
              go_upto_region 20 with fail
              refine wp_region_st 14 2 [.r 0 2, .r 0 2, .r 0 2, .r 0 2, .w 0, .r 0 2, .r 0 2, .r 0 2, .r 0 2, .w 1, .r 0 2] (fun ph w' => Pl wn B2 g d g2 dn dc X (match ph with | 0 => s | _ => (writeL s i p).1) (match ph with | 0 => s | 1 => s | _ => (writeL s i p).1) w' ∧ XKeep X w4 w') (fun _ _ => True) (fun idx v w' => match idx with
                | 0 => v = .pointer (some ⟨g, 0, none⟩)
                | 1 | 6 => v = .pointer (some ⟨q, 1, none⟩)
                | 2 | 7 => v = .int .i64 i
                | 3 => v = .slice am kt cm
                | 4 | 9 => v = .int .i64 ((writeL s i p).2 : Int)
                | 5 => v = .pointer (some ⟨g2, 0, none⟩)
                | 8 => v = .slice ao kt co
                | 10 => v = .bool true
                | _ => True) (by kernel_rfl) (by kernel_rfl) (by kernel_rfl) (by kernel_rfl) ?_ ?_ ?_ ?_ ?_ ?_
              · intro j v wx wy hR hb
                match j, hR with
                | 0, hR | 1, hR | 6, hR | 2, hR | 7, hR | 3, hR | 4, hR | 9, hR | 5, hR | 8, hR | 10, hR => exact hR
                | _ + 11, _ => trivial
              · intro j v wx wy hR hb
                match j, hR with
                | 0, hR | 1, hR | 6, hR | 2, hR | 7, hR | 3, hR | 4, hR | 9, hR | 5, hR | 8, hR | 10, hR => exact hR
                | _ + 11, _ => trivial
              · intro ph wx wy hS hb
                exact ⟨hS.1.below hb, hS.2.trans (hS.1.keepX hb)⟩
              · exact ⟨T4.out.below (below_drew _), T4.out.keepX (below_drew _)⟩
              · refine ⟨?_, ?_, ?_, ?_, ?_, ?_, ?_, ?_, ?_, ?_, ?_, trivial⟩
                all_goals intro ρ wx hc hg hf
                · intro ph _ _ hS
                  intro h0; exact opOk_move _ rfl ⟨Below.refl _ _, h0⟩
                · intro ph _ _ hS
                  intro (h0 : ρ (.tmp 10) = .pointer (some ⟨q, 0, none⟩))
                  exact opOk_run (v := .pointer (some ⟨q, 1, none⟩)) (w' := wx) (by go_simp) ⟨Below.refl _ _, rfl⟩
                · intro ph _ _ hS
                  intro (h0 : ρ (.tmp 79) = .pointer (some ⟨q, 1, none⟩))
                  have c := (Blk.x Q4.out hS.2 Xq.out).get 1 rfl
                  exact opOk_load _ _ rfl _ _ h0 (run_int_at _ _ _ _ c) ⟨Below.refl _ _, rfl⟩
                · intro ph _ _ hS
                  intro h0; exact opOk_move _ rfl ⟨Below.refl _ _, h0⟩
                · intro hS
                  intro (h0 : ρ (.tmp 78) = .pointer (some ⟨g, 0, none⟩)) (h1 : ρ (.tmp 80) = .int .i64 i) (h2 : ρ (.tmp 81) = .slice am kt cm)
                  obtain ⟨b1, b2, b3⟩ := ob_arg (wn := wn) (OB.x Om.out hS.2 Xm.out) Xm.out
                  refine opOk_call (f := 10) (args := #[.pointer (some ⟨g, 0, none⟩), .int .i64 i, .slice am kt cm]) (by go_simp) ?_
                  refine (pl_write hS.1 i am cm kt p hi b1 b2 (by have := Fs.out.1; show s.steps < _; omega) (by have := Fs.out.2.1; show s.way.length < _; omega) b3).mono ?_
                  rintro e w7 ⟨rfl, h7, k7⟩
                  exact ⟨_, rfl, trivial, ⟨h7, hS.2.trans k7⟩, rfl⟩
                · intro ph _ _ hS
                  intro h0; exact opOk_move _ rfl ⟨Below.refl _ _, h0⟩
                · intro ph _ _ hS
                  intro (h0 : ρ (.tmp 10) = .pointer (some ⟨q, 0, none⟩))
                  exact opOk_run (v := .pointer (some ⟨q, 1, none⟩)) (w' := wx) (by go_simp) ⟨Below.refl _ _, rfl⟩
                · intro ph _ _ hS
                  intro (h0 : ρ (.tmp 84) = .pointer (some ⟨q, 1, none⟩))
                  have c := (Blk.x Q4.out hS.2 Xq.out).get 1 rfl
                  exact opOk_load _ _ rfl _ _ h0 (run_int_at _ _ _ _ c) ⟨Below.refl _ _, rfl⟩
                · intro ph _ _ hS
                  intro h0; exact opOk_move _ rfl ⟨Below.refl _ _, h0⟩
                · intro hS
                  intro (h0 : ρ (.tmp 83) = .pointer (some ⟨g2, 0, none⟩)) (h1 : ρ (.tmp 85) = .int .i64 i) (h2 : ρ (.tmp 86) = .slice ao kt co)
                  refine opOk_call (f := 20) (args := #[.pointer (some ⟨g2, 0, none⟩), .int .i64 i, .slice ao kt co]) (by go_simp) ?_
                  refine (pl_put hS.1 i ao co kt p hi (Pt.out.below (Bn.out.trans (hS.1.bel.mono Bn.out.size))) Lt.out (by have := Fs.out.1; show s.steps < _; omega) (by have := Fs.out.2.1; show s.way.length < _; omega) (offX_old Pt.out Bn.out.size)).mono ?_
                  rintro e w7 ⟨rfl, h7, k7⟩
                  exact ⟨_, rfl, trivial, ⟨h7, hS.2.trans k7⟩, rfl⟩
                · intro ph _ _ hS
                  intro (h0 : ρ (.tmp 82) = .int .i64 ((writeL s i p).2 : Int)) (h1 : ρ (.tmp 87) = .int .i64 ((writeL s i p).2 : Int))
                  exact opOk_run (v := .bool true) (w' := wx) (by go_simp) ⟨Below.refl _ _, rfl⟩
              · intro wz hS
                rintro _ rfl _ rfl _ rfl _ rfl _ rfl _ rfl _ rfl _ rfl _ rfl _ rfl _ rfl
                simp only [PutLast, Act.put, List.setIfInBounds_toArray, List.set_cons_succ, List.set_cons_zero]
                refine opOk_assignV (.tmp 88) (.bool true) rfl rfl ?_
                have hS9 := hid (show Pl wn B2 g d g2 dn dc X ((writeL s i p).1) ((writeL s i p).1) wz ∧ XKeep X w4 wz from hS)
                clear hS
                go_wp2_with fail
                go_meet
                have R9 : MidSt wn B2 g d g2 dn dc q k X w4 (.bool true) wz := ⟨_, rfl, hS9.out.1, Fs.out.write i p, hS9.out.2⟩
                first | exact R9 | ((repeat apply Exists.intro); refine ⟨R9, ?_⟩; and_intros <;> rfl)
            · as_aux_lemma =>
              have e0 : ((dd : Int) == 0) = false := by rw [beq_eq_false_iff_ne]; omega
              have e1 : ((dd : Int) == 1) = false := by rw [beq_eq_false_iff_ne]; omega
              have e2 : ((dd : Int) == 2) = true := by rw [beq_iff_eq]; omega
              have e3 : ((dd : Int) == 3) = false := by rw [beq_eq_false_iff_ne]; omega
              have e4 : ((dd : Int) == 4) = false := by rw [beq_eq_false_iff_ne]; omega
              have e5 : ((dd : Int) == 5) = false := by rw [beq_eq_false_iff_ne]; omega
              have e6 : ((dd : Int) == 6) = false := by rw [beq_eq_false_iff_ne]; omega
              go_upto_region 20 with fail
              refine wp_region_st 14 2 [.r 0 2, .r 0 2, .r 0 2, .r 0 2, .w 0, .r 0 2, .r 0 2, .r 0 2, .r 0 2, .w 1, .r 0 2] (fun ph w' => Pl wn B2 g d g2 dn dc X (match ph with | 0 => s | _ => (writeL s i p).1) (match ph with | 0 => s | 1 => s | _ => (writeL s i p).1) w' ∧ XKeep X w4 w') (fun _ _ => True) (fun idx v w' => match idx with
                | 0 => v = .pointer (some ⟨g, 0, none⟩)
                | 1 | 6 => v = .pointer (some ⟨q, 1, none⟩)
                | 2 | 7 => v = .int .i64 i
                | 3 => v = .slice am kt cm
                | 4 | 9 => v = .int .i64 ((writeL s i p).2 : Int)
                | 5 => v = .pointer (some ⟨g2, 0, none⟩)
                | 8 => v = .slice ao kt co
                | 10 => v = .bool true
                | _ => True) (by kernel_rfl) (by kernel_rfl) (by kernel_rfl) (by kernel_rfl) ?_ ?_ ?_ ?_ ?_ ?_
              · intro j v wx wy hR hb
                match j, hR with
                | 0, hR | 1, hR | 6, hR | 2, hR | 7, hR | 3, hR | 4, hR | 9, hR | 5, hR | 8, hR | 10, hR => exact hR
                | _ + 11, _ => trivial
              · intro j v wx wy hR hb
                match j, hR with
                | 0, hR | 1, hR | 6, hR | 2, hR | 7, hR | 3, hR | 4, hR | 9, hR | 5, hR | 8, hR | 10, hR => exact hR
                | _ + 11, _ => trivial
              · intro ph wx wy hS hb
                exact ⟨hS.1.below hb, hS.2.trans (hS.1.keepX hb)⟩
              · exact ⟨T4.out.below (below_drew _), T4.out.keepX (below_drew _)⟩
              · refine ⟨?_, ?_, ?_, ?_, ?_, ?_, ?_, ?_, ?_, ?_, ?_, trivial⟩
                all_goals intro ρ wx hc hg hf
                · intro ph _ _ hS
                  intro h0; exact opOk_move _ rfl ⟨Below.refl _ _, h0⟩
                · intro ph _ _ hS
                  intro (h0 : ρ (.tmp 10) = .pointer (some ⟨q, 0, none⟩))
                  exact opOk_run (v := .pointer (some ⟨q, 1, none⟩)) (w' := wx) (by go_simp) ⟨Below.refl _ _, rfl⟩
                · intro ph _ _ hS
                  intro (h0 : ρ (.tmp 79) = .pointer (some ⟨q, 1, none⟩))
                  have c := (Blk.x Q4.out hS.2 Xq.out).get 1 rfl
                  exact opOk_load _ _ rfl _ _ h0 (run_int_at _ _ _ _ c) ⟨Below.refl _ _, rfl⟩
                · intro ph _ _ hS
                  intro h0; exact opOk_move _ rfl ⟨Below.refl _ _, h0⟩
                · intro hS
                  intro (h0 : ρ (.tmp 78) = .pointer (some ⟨g, 0, none⟩)) (h1 : ρ (.tmp 80) = .int .i64 i) (h2 : ρ (.tmp 81) = .slice am kt cm)
                  obtain ⟨b1, b2, b3⟩ := ob_arg (wn := wn) (OB.x Om.out hS.2 Xm.out) Xm.out
                  refine opOk_call (f := 10) (args := #[.pointer (some ⟨g, 0, none⟩), .int .i64 i, .slice am kt cm]) (by go_simp) ?_
                  refine (pl_write hS.1 i am cm kt p hi b1 b2 (by have := Fs.out.1; show s.steps < _; omega) (by have := Fs.out.2.1; show s.way.length < _; omega) b3).mono ?_
                  rintro e w7 ⟨rfl, h7, k7⟩
                  exact ⟨_, rfl, trivial, ⟨h7, hS.2.trans k7⟩, rfl⟩
                · intro ph _ _ hS
                  intro h0; exact opOk_move _ rfl ⟨Below.refl _ _, h0⟩
                · intro ph _ _ hS
                  intro (h0 : ρ (.tmp 10) = .pointer (some ⟨q, 0, none⟩))
                  exact opOk_run (v := .pointer (some ⟨q, 1, none⟩)) (w' := wx) (by go_simp) ⟨Below.refl _ _, rfl⟩
                · intro ph _ _ hS
                  intro (h0 : ρ (.tmp 84) = .pointer (some ⟨q, 1, none⟩))
                  have c := (Blk.x Q4.out hS.2 Xq.out).get 1 rfl
                  exact opOk_load _ _ rfl _ _ h0 (run_int_at _ _ _ _ c) ⟨Below.refl _ _, rfl⟩
                · intro ph _ _ hS
                  intro h0; exact opOk_move _ rfl ⟨Below.refl _ _, h0⟩
                · intro hS
                  intro (h0 : ρ (.tmp 83) = .pointer (some ⟨g2, 0, none⟩)) (h1 : ρ (.tmp 85) = .int .i64 i) (h2 : ρ (.tmp 86) = .slice ao kt co)
                  refine opOk_call (f := 20) (args := #[.pointer (some ⟨g2, 0, none⟩), .int .i64 i, .slice ao kt co]) (by go_simp) ?_
                  refine (pl_put hS.1 i ao co kt p hi (Pt.out.below (Bn.out.trans (hS.1.bel.mono Bn.out.size))) Lt.out (by have := Fs.out.1; show s.steps < _; omega) (by have := Fs.out.2.1; show s.way.length < _; omega) (offX_old Pt.out Bn.out.size)).mono ?_
                  rintro e w7 ⟨rfl, h7, k7⟩
                  exact ⟨_, rfl, trivial, ⟨h7, hS.2.trans k7⟩, rfl⟩
                · intro ph _ _ hS
                  intro (h0 : ρ (.tmp 82) = .int .i64 ((writeL s i p).2 : Int)) (h1 : ρ (.tmp 87) = .int .i64 ((writeL s i p).2 : Int))
                  exact opOk_run (v := .bool true) (w' := wx) (by go_simp) ⟨Below.refl _ _, rfl⟩
              · intro wz hS
                rintro _ rfl _ rfl _ rfl _ rfl _ rfl _ rfl _ rfl _ rfl _ rfl _ rfl _ rfl
                simp only [PutLast, Act.put, List.setIfInBounds_toArray, List.set_cons_succ, List.set_cons_zero]
                refine opOk_assignV (.tmp 88) (.bool true) rfl rfl ?_
                have hS9 := hid (show Pl wn B2 g d g2 dn dc X ((writeL s i p).1) ((writeL s i p).1) wz ∧ XKeep X w4 wz from hS)
                clear hS
                go_wp2_with fail
                go_meet
                have R9 : MidSt wn B2 g d g2 dn dc q k X w4 (.bool true) wz := ⟨_, rfl, hS9.out.1, Fs.out.write i p, hS9.out.2⟩
                first | exact R9 | ((repeat apply Exists.intro); refine ⟨R9, ?_⟩; and_intros <;> rfl)
            · as_aux_lemma =>
              have e0 : ((dd : Int) == 0) = false := by rw [beq_eq_false_iff_ne]; omega
              have e1 : ((dd : Int) == 1) = false := by rw [beq_eq_false_iff_ne]; omega
              have e2 : ((dd : Int) == 2) = false := by rw [beq_eq_false_iff_ne]; omega
              have e3 : ((dd : Int) == 3) = true := by rw [beq_iff_eq]; omega
              have e4 : ((dd : Int) == 4) = false := by rw [beq_eq_false_iff_ne]; omega
              have e5 : ((dd : Int) == 5) = false := by rw [beq_eq_false_iff_ne]; omega
              have e6 : ((dd : Int) == 6) = false := by rw [beq_eq_false_iff_ne]; omega
              have q1 := Q4.out.get 1 rfl
              go_wp2_with fail
              clear q1
              refine (pl_read T4.out i hi).mono ?_
              rintro e w5 ⟨v5, rfl, ho5, hb5⟩
              obtain ⟨Lr, hLr⟩ : ∃ Lr, (readL s i).1 = Lr := ⟨_, rfl⟩
              obtain ⟨rr, hrr⟩ : ∃ rr, (readL s i).2 = rr := ⟨_, rfl⟩
              rw [hLr] at ho5
              rw [hrr]
              obtain ⟨a5, c5, e5, hbs5, hof5⟩ := ho5.bs
              subst e5
              have O5 := hid ho5
              have A5 := hid hbs5
              have B5 := hid hb5
              have HL := hid hLr
              have Hr := hid hrr
              have q1 := (Q4.out.below hb5).get 1 rfl
              clear ho5 hbs5 hof5 hb5 hLr hrr
              go_wp2_with fail
              clear q1
              refine (pl_get (T4.out.below B5.out) i hi).mono ?_
              rintro e w6 ⟨v6, rfl, ho6, hb6⟩
              rw [HL.out] at ho6
              rw [Hr.out]
              obtain ⟨a6, c6, e6, hbs6, hof6⟩ := ho6.bs
              subst e6
              have A6 := hid hbs6
              have B6 := hid hb6
              clear ho6 hbs6 hof6 hb6
              go_wp2_with fail
              refine (same_calls _ _ _ _ _ _ _ (A5.out.below B6.out) A6.out).mono ?_
              rintro e w7 ⟨rfl, rfl⟩
              rw [beq_self_eq_true]
              have eb : ((rr : Int) == (rr : Int)) = true := by simp
              have mL := A5.out.max'
              go_wp2_with fail
              have X0 := hid (xor_start (P := fun w' => Below w4.heap.size w4 w') (O5.out.below B6.out) (B5.out.trans (B6.out.mono B5.out.size)))
              go_loopw [115] (fun iv w' => XorRel (fun w' => Below w4.heap.size w4 w') w4.heap.size (.slice a5 Lr.length c5) Lr iv w') (fun iv _ => Lr.length - (intOf iv).toNat)
              case atStart => exact X0.out
              case round =>
                obtain ⟨j, xs, rfl, hj, hR, hx, hbl⟩ := hrel
                by_cases hjl : j < Lr.length
                · have hjl' : (j : Int) < (Lr.length : Int) := by omega
                  obtain ⟨bx, cx, xx, ex, q1, q2, q3, q4, q5⟩ := xor_at (P := fun w' => Below w4.heap.size w4 w') hjl hR hx
                  simp only [Value.slice.injEq] at ex
                  obtain ⟨rfl, _, rfl⟩ := ex
                  have Q5 := hid q5
                  have Bl := hid hbl
                  have q4' := q4
                  clear q5 hbl hR hx
                  go_wp2_with fail
                  refine ⟨?_, by simp [intOf]; omega⟩
                  first | exact Q5.out _ (Bl.out.setCell q4' _) | ((repeat apply Exists.intro); refine ⟨Q5.out _ (Bl.out.setCell q4' _), ?_⟩; and_intros <;> rfl)
                · obtain rfl : j = Lr.length := by omega
                  have hjl' : ¬ ((Lr.length : Int) < (Lr.length : Int)) := by omega
                  have Bl := hid hbl
                  clear hR hx hbl
                  obtain ⟨w8, rfl⟩ : ∃ w8 : World, w8 = wr := ⟨_, rfl⟩
                  go_wp2_with fail
                  go_meet
                  have R9 : MidSt wn B2 g d g2 dn dc q k X w4 (.bool true) w8 := ⟨_, rfl, T4.out.below Bl.out, Fs.out.more, T4.out.keepX Bl.out⟩
                  first | exact R9 | ((repeat apply Exists.intro); refine ⟨R9, ?_⟩; and_intros <;> rfl)
            · as_aux_lemma =>
              have e0 : ((dd : Int) == 0) = false := by rw [beq_eq_false_iff_ne]; omega
              have e1 : ((dd : Int) == 1) = false := by rw [beq_eq_false_iff_ne]; omega
              have e2 : ((dd : Int) == 2) = false := by rw [beq_eq_false_iff_ne]; omega
              have e3 : ((dd : Int) == 3) = false := by rw [beq_eq_false_iff_ne]; omega
              have e4 : ((dd : Int) == 4) = true := by rw [beq_iff_eq]; omega
              have e5 : ((dd : Int) == 5) = false := by rw [beq_eq_false_iff_ne]; omega
              have e6 : ((dd : Int) == 6) = false := by rw [beq_eq_false_iff_ne]; omega
              go_wp2_with fail
              refine (pl_flush T4.out (by have := Fs.out.1; omega)).mono ?_
              rintro e w5 ⟨rfl, h5, k5⟩
              have A5 := hid (And.intro h5 k5)
              clear h5 k5
              go_wp2_with fail
              refine (pl_rflush A5.out.1 (by have := Fs.out.1; omega)).mono ?_
              rintro e w6 ⟨rfl, h6, k6⟩
              have A6 := hid (And.intro h6 k6)
              clear h6 k6
              have eb : ((((flushL s).2 : Nat) : Int) == (((flushL s).2 : Nat) : Int)) = true := by simp
              go_wp2_with fail
              go_meet
              have R9 : MidSt wn B2 g d g2 dn dc q k X w4 (.bool true) w6 := ⟨_, rfl, A6.out.1, Fs.out.flush, A5.out.2.trans A6.out.2⟩
              first | exact R9 | ((repeat apply Exists.intro); refine ⟨R9, ?_⟩; and_intros <;> rfl)
            · as_aux_lemma =>
              have e0 : ((dd : Int) == 0) = false := by rw [beq_eq_false_iff_ne]; omega
              have e1 : ((dd : Int) == 1) = false := by rw [beq_eq_false_iff_ne]; omega
              have e2 : ((dd : Int) == 2) = false := by rw [beq_eq_false_iff_ne]; omega
              have e3 : ((dd : Int) == 3) = false := by rw [beq_eq_false_iff_ne]; omega
              have e4 : ((dd : Int) == 4) = false := by rw [beq_eq_false_iff_ne]; omega
              have e5 : ((dd : Int) == 5) = true := by rw [beq_iff_eq]; omega
              have e6 : ((dd : Int) == 6) = false := by rw [beq_eq_false_iff_ne]; omega
              go_upto_region 33 with fail
              refine wp_region_st 14 2 [.r 0 2, .r 0 2, .r 0 2, .w 0, .r 0 2, .r 0 2, .r 0 2, .w 1, .r 0 2] (fun ph w' => Pl wn B2 g d g2 dn dc X (match ph with | 0 => s | _ => (armL s i).1) (match ph with | 0 => s | 1 => s | _ => (armL s i).1) w' ∧ XKeep X w4 w') (fun _ _ => True) (fun idx v w' => match idx with
                | 0 => v = .pointer (some ⟨g, 0, none⟩)
                | 1 | 5 => v = .pointer (some ⟨q, 1, none⟩)
                | 2 | 6 => v = .int .i64 i
                | 3 | 7 => v = .int .i64 ((armL s i).2 : Int)
                | 4 => v = .pointer (some ⟨g2, 0, none⟩)
                | 8 => v = .bool true
                | _ => True) (by kernel_rfl) (by kernel_rfl) (by kernel_rfl) (by kernel_rfl) ?_ ?_ ?_ ?_ ?_ ?_
              · intro j v wx wy hR hb
                match j, hR with
                | 0, hR | 1, hR | 5, hR | 2, hR | 6, hR | 3, hR | 7, hR | 4, hR | 8, hR => exact hR
                | _ + 9, _ => trivial
              · intro j v wx wy hR hb
                match j, hR with
                | 0, hR | 1, hR | 5, hR | 2, hR | 6, hR | 3, hR | 7, hR | 4, hR | 8, hR => exact hR
                | _ + 9, _ => trivial
              · intro ph wx wy hS hb
                exact ⟨hS.1.below hb, hS.2.trans (hS.1.keepX hb)⟩
              · exact ⟨T4.out.below (below_drew _), T4.out.keepX (below_drew _)⟩
              · refine ⟨?_, ?_, ?_, ?_, ?_, ?_, ?_, ?_, ?_, trivial⟩
                all_goals intro ρ wx hc hg hf
                · intro ph _ _ hS
                  intro h0; exact opOk_move _ rfl ⟨Below.refl _ _, h0⟩
                · intro ph _ _ hS
                  intro (h0 : ρ (.tmp 10) = .pointer (some ⟨q, 0, none⟩))
                  exact opOk_run (v := .pointer (some ⟨q, 1, none⟩)) (w' := wx) (by go_simp) ⟨Below.refl _ _, rfl⟩
                · intro ph _ _ hS
                  intro (h0 : ρ (.tmp 135) = .pointer (some ⟨q, 1, none⟩))
                  have c := (Blk.x Q4.out hS.2 Xq.out).get 1 rfl
                  exact opOk_load _ _ rfl _ _ h0 (run_int_at _ _ _ _ c) ⟨Below.refl _ _, rfl⟩
                · intro hS
                  intro (h0 : ρ (.tmp 134) = .pointer (some ⟨g, 0, none⟩)) (h1 : ρ (.tmp 136) = .int .i64 i)
                  refine opOk_call (f := 15) (args := #[.pointer (some ⟨g, 0, none⟩), .int .i64 i]) (by go_simp) ?_
                  refine (pl_arm hS.1 i hi.2).mono ?_
                  rintro e w7 ⟨rfl, h7, k7⟩
                  exact ⟨_, rfl, trivial, ⟨h7, hS.2.trans k7⟩, rfl⟩
                · intro ph _ _ hS
                  intro h0; exact opOk_move _ rfl ⟨Below.refl _ _, h0⟩
                · intro ph _ _ hS
                  intro (h0 : ρ (.tmp 10) = .pointer (some ⟨q, 0, none⟩))
                  exact opOk_run (v := .pointer (some ⟨q, 1, none⟩)) (w' := wx) (by go_simp) ⟨Below.refl _ _, rfl⟩
                · intro ph _ _ hS
                  intro (h0 : ρ (.tmp 139) = .pointer (some ⟨q, 1, none⟩))
                  have c := (Blk.x Q4.out hS.2 Xq.out).get 1 rfl
                  exact opOk_load _ _ rfl _ _ h0 (run_int_at _ _ _ _ c) ⟨Below.refl _ _, rfl⟩
                · intro hS
                  intro (h0 : ρ (.tmp 138) = .pointer (some ⟨g2, 0, none⟩)) (h1 : ρ (.tmp 140) = .int .i64 i)
                  refine opOk_call (f := 23) (args := #[.pointer (some ⟨g2, 0, none⟩), .int .i64 i]) (by go_simp) ?_
                  refine (pl_rarm hS.1 i hi.2).mono ?_
                  rintro e w7 ⟨rfl, h7, k7⟩
                  exact ⟨_, rfl, trivial, ⟨h7, hS.2.trans k7⟩, rfl⟩
                · intro ph _ _ hS
                  intro (h0 : ρ (.tmp 137) = .int .i64 ((armL s i).2 : Int)) (h1 : ρ (.tmp 141) = .int .i64 ((armL s i).2 : Int))
                  exact opOk_run (v := .bool true) (w' := wx) (by go_simp) ⟨Below.refl _ _, rfl⟩
              · intro wz hS
                rintro _ rfl _ rfl _ rfl _ rfl _ rfl _ rfl _ rfl _ rfl _ rfl
                simp only [PutLast, Act.put, List.setIfInBounds_toArray, List.set_cons_succ, List.set_cons_zero]
                refine opOk_assignV (.tmp 142) (.bool true) rfl rfl ?_
                have hS9 := hid (show Pl wn B2 g d g2 dn dc X ((armL s i).1) ((armL s i).1) wz ∧ XKeep X w4 wz from hS)
                clear hS
                go_wp2_with fail
                go_meet
                have R9 : MidSt wn B2 g d g2 dn dc q k X w4 (.bool true) wz := ⟨_, rfl, hS9.out.1, Fs.out.arm i, hS9.out.2⟩
                first | exact R9 | ((repeat apply Exists.intro); refine ⟨R9, ?_⟩; and_intros <;> rfl)
            · as_aux_lemma =>
              have e0 : ((dd : Int) == 0) = false := by rw [beq_eq_false_iff_ne]; omega
              have e1 : ((dd : Int) == 1) = false := by rw [beq_eq_false_iff_ne]; omega
              have e2 : ((dd : Int) == 2) = false := by rw [beq_eq_false_iff_ne]; omega
              have e3 : ((dd : Int) == 3) = false := by rw [beq_eq_false_iff_ne]; omega
              have e4 : ((dd : Int) == 4) = false := by rw [beq_eq_false_iff_ne]; omega
              have e5 : ((dd : Int) == 5) = false := by rw [beq_eq_false_iff_ne]; omega
              have e6 : ((dd : Int) == 6) = true := by rw [beq_iff_eq]; omega
              go_upto_region 35 with fail
              refine wp_region_st 14 2 [.r 0 2, .r 0 2, .r 0 2, .r 0 2, .w 0, .r 0 2, .r 0 2, .r 0 2, .r 0 2, .w 1, .r 0 2] (fun ph w' => Pl wn B2 g d g2 dn dc X (match ph with | 0 => s | _ => crashL s p i) (match ph with | 0 => s | 1 => s | _ => crashL s p i) w' ∧ XKeep X w4 w') (fun _ _ => True) (fun idx v w' => match idx with
                | 0 => v = .pointer (some ⟨g, 0, none⟩)
                | 1 => v = .slice am kt cm
                | 2 | 7 => v = .pointer (some ⟨q, 1, none⟩)
                | 3 | 8 => v = .int .i64 i
                | 4 | 9 => v = .int .i64 0
                | 5 => v = .pointer (some ⟨g2, 0, none⟩)
                | 6 => v = .slice ao kt co
                | 10 => v = .bool true
                | _ => True) (by kernel_rfl) (by kernel_rfl) (by kernel_rfl) (by kernel_rfl) ?_ ?_ ?_ ?_ ?_ ?_
              · intro j v wx wy hR hb
                match j, hR with
                | 0, hR | 1, hR | 2, hR | 7, hR | 3, hR | 8, hR | 4, hR | 9, hR | 5, hR | 6, hR | 10, hR => exact hR
                | _ + 11, _ => trivial
              · intro j v wx wy hR hb
                match j, hR with
                | 0, hR | 1, hR | 2, hR | 7, hR | 3, hR | 8, hR | 4, hR | 9, hR | 5, hR | 6, hR | 10, hR => exact hR
                | _ + 11, _ => trivial
              · intro ph wx wy hS hb
                exact ⟨hS.1.below hb, hS.2.trans (hS.1.keepX hb)⟩
              · exact ⟨T4.out.below (below_drew _), T4.out.keepX (below_drew _)⟩
              · refine ⟨?_, ?_, ?_, ?_, ?_, ?_, ?_, ?_, ?_, ?_, ?_, trivial⟩
                all_goals intro ρ wx hc hg hf
                · intro ph _ _ hS
                  intro h0; exact opOk_move _ rfl ⟨Below.refl _ _, h0⟩
                · intro ph _ _ hS
                  intro h0; exact opOk_move _ rfl ⟨Below.refl _ _, h0⟩
                · intro ph _ _ hS
                  intro (h0 : ρ (.tmp 10) = .pointer (some ⟨q, 0, none⟩))
                  exact opOk_run (v := .pointer (some ⟨q, 1, none⟩)) (w' := wx) (by go_simp) ⟨Below.refl _ _, rfl⟩
                · intro ph _ _ hS
                  intro (h0 : ρ (.tmp 147) = .pointer (some ⟨q, 1, none⟩))
                  have c := (Blk.x Q4.out hS.2 Xq.out).get 1 rfl
                  exact opOk_load _ _ rfl _ _ h0 (run_int_at _ _ _ _ c) ⟨Below.refl _ _, rfl⟩
                · intro hS
                  intro (h0 : ρ (.tmp 145) = .pointer (some ⟨g, 0, none⟩)) (h1 : ρ (.tmp 146) = .slice am kt cm) (h2 : ρ (.tmp 148) = .int .i64 i)
                  obtain ⟨b1, b2, b3⟩ := ob_arg (wn := wn) (OB.x Om.out hS.2 Xm.out) Xm.out
                  refine opOk_call (f := 12) (args := #[.pointer (some ⟨g, 0, none⟩), .slice am kt cm, .int .i64 i]) (by go_simp) ?_
                  refine (pl_crash hS.1 am cm kt p i hi b1 b2 b3).mono ?_
                  rintro e w7 ⟨rfl, h7, k7⟩
                  exact ⟨_, rfl, trivial, ⟨h7, hS.2.trans k7⟩, rfl⟩
                · intro ph _ _ hS
                  intro h0; exact opOk_move _ rfl ⟨Below.refl _ _, h0⟩
                · intro ph _ _ hS
                  intro h0; exact opOk_move _ rfl ⟨Below.refl _ _, h0⟩
                · intro ph _ _ hS
                  intro (h0 : ρ (.tmp 10) = .pointer (some ⟨q, 0, none⟩))
                  exact opOk_run (v := .pointer (some ⟨q, 1, none⟩)) (w' := wx) (by go_simp) ⟨Below.refl _ _, rfl⟩
                · intro ph _ _ hS
                  intro (h0 : ρ (.tmp 152) = .pointer (some ⟨q, 1, none⟩))
                  have c := (Blk.x Q4.out hS.2 Xq.out).get 1 rfl
                  exact opOk_load _ _ rfl _ _ h0 (run_int_at _ _ _ _ c) ⟨Below.refl _ _, rfl⟩
                · intro hS
                  intro (h0 : ρ (.tmp 150) = .pointer (some ⟨g2, 0, none⟩)) (h1 : ρ (.tmp 151) = .slice ao kt co) (h2 : ρ (.tmp 153) = .int .i64 i)
                  refine opOk_call (f := 24) (args := #[.pointer (some ⟨g2, 0, none⟩), .slice ao kt co, .int .i64 i]) (by go_simp) ?_
                  refine (pl_rcrash hS.1 ao co kt p i hi (Pt.out.below (Bn.out.trans (hS.1.bel.mono Bn.out.size))) Lt.out (offX_old Pt.out Bn.out.size)).mono ?_
                  rintro e w7 ⟨rfl, h7, k7⟩
                  exact ⟨_, rfl, trivial, ⟨h7, hS.2.trans k7⟩, rfl⟩
                · intro ph _ _ hS
                  intro (h0 : ρ (.tmp 149) = .int .i64 0) (h1 : ρ (.tmp 154) = .int .i64 0)
                  exact opOk_run (v := .bool true) (w' := wx) (by go_simp) ⟨Below.refl _ _, rfl⟩
              · intro wz hS
                rintro _ rfl _ rfl _ rfl _ rfl _ rfl _ rfl _ rfl _ rfl _ rfl _ rfl _ rfl
                simp only [PutLast, Act.put, List.setIfInBounds_toArray, List.set_cons_succ, List.set_cons_zero]
                refine opOk_assignV (.tmp 155) (.bool true) rfl rfl ?_
                have hS9 := hid (show Pl wn B2 g d g2 dn dc X (crashL s p i) (crashL s p i) wz ∧ XKeep X w4 wz from hS)
                clear hS
                go_wp2_with fail
                go_meet
                have R9 : MidSt wn B2 g d g2 dn dc q k X w4 (.bool true) wz := ⟨_, rfl, hS9.out.1, Fs.out.crash p i, hS9.out.2⟩
                first | exact R9 | ((repeat apply Exists.intro); refine ⟨R9, ?_⟩; and_intros <;> rfl)
            · as_aux_lemma =>
              have e0 : ((dd : Int) == 0) = false := by rw [beq_eq_false_iff_ne]; omega
              have e1 : ((dd : Int) == 1) = false := by rw [beq_eq_false_iff_ne]; omega
              have e2 : ((dd : Int) == 2) = false := by rw [beq_eq_false_iff_ne]; omega
              have e3 : ((dd : Int) == 3) = false := by rw [beq_eq_false_iff_ne]; omega
              have e4 : ((dd : Int) == 4) = false := by rw [beq_eq_false_iff_ne]; omega
              have e5 : ((dd : Int) == 5) = false := by rw [beq_eq_false_iff_ne]; omega
              have e6 : ((dd : Int) == 6) = false := by rw [beq_eq_false_iff_ne]; omega
              go_wp2_with fail
              go_meet
              have R9 : MidSt wn B2 g d g2 dn dc q k X w4 (.bool true) w4 := ⟨_, rfl, T4.out, Fs.out.more, fun _ _ => rfl⟩
              first | exact R9 | ((repeat apply Exists.intro); refine ⟨R9, ?_⟩; and_intros <;> rfl)
          case rest => as_aux_lemma =>
            obtain ⟨s2, e13, hP, hF, hX⟩ := hcut
            subst e13
            have T5 := hid hP
            have F5 := hid hF
            obtain ⟨b1, b2, b3⟩ := ob_arg (wn := wn) (OB.x Om.out hX Xm.out) Xm.out
            have O5 := hid (OB.x Om.out hX Xm.out)
            have C := same_calls am ao cm co p p wc b1 (Pt.out.below (Bn.out.trans (T5.out.bel.mono Bn.out.size)))
            rw [Lt.out, beq_self_eq_true] at C
            clear hP hF hX b1 b2 b3
            go_wp2_with fail
            refine C.mono ?_
            rintro e w7 ⟨rfl, rfl⟩
            clear C
            go_wp2_with fail
            have X0 := hid (xor_start (P := Pl wn B2 g d g2 dn dc X s2 s2) O5.out T5.out)
            go_loopw [166] (fun iv w' => XorRel (Pl wn B2 g d g2 dn dc X s2 s2) bm (.slice am kt cm) p iv w') (fun iv _ => p.length - (intOf iv).toNat)
            case atStart => exact X0.out
            case round =>
              obtain ⟨j, xs, rfl, hj, hR, hx, hbl⟩ := hrel
              have lt := Lt.out
              by_cases hjl : j < p.length
              · have hjl' : (j : Int) < (kt : Int) := by omega
                obtain ⟨bx, cx, xx, ex, q1, q2, q3, q4, q5⟩ := xor_at (P := Pl wn B2 g d g2 dn dc X s2 s2) hjl hR hx
                rw [lt] at ex
                simp only [Value.slice.injEq] at ex
                obtain ⟨rfl, _, rfl⟩ := ex
                have Q5 := hid q5
                have Bl := hid (fun u => Pl.setX hbl bx j u (Xm.out bx rfl) (Nat.le_trans hmb q4))
                have q4' := q4
                clear q5 hbl hR hx lt
                go_wp2_with fail
                refine ⟨?_, by simp [intOf]; omega⟩
                first | exact Q5.out _ (Bl.out _) | ((repeat apply Exists.intro); refine ⟨Q5.out _ (Bl.out _), ?_⟩; and_intros <;> rfl)
              · have hjk : j = kt := by omega
                subst hjk
                have hjl' : ¬ ((j : Int) < (j : Int)) := by omega
                have T6 := hid hbl
                have Lk := pl_looks hbl
                obtain ⟨k1, k2, k3, k4, k5, ⟨wa, wc', k6⟩, k7, k8⟩ := Lk
                have K1 := hid k1
                have K2 := hid k2
                have K3 := hid k3
                have K4 := hid k4
                clear hR hx hbl k1 k2 k3 k4 lt
                obtain ⟨w8, rfl⟩ : ∃ w8 : World, w8 = wr := ⟨_, rfl⟩
                go_wp2_with fail
                have eo : ((!s2.off) == s2.off) = false := by cases s2.off <;> rfl
                go_quiet (first | exact Calls.quiet_of_same (K1.out _) | exact Calls.quiet_of_same (K2.out _) | exact Calls.quiet_of_same (K3.out _) | exact Calls.quiet_of_same (K4.out _))
                have T8 := hid (T6.out.below (below_drewN (Below.refl _ w8) nq))
                clear eo k6 k7 k8 K1 K2 K3 K4
                generalize w8.drewN nq = w9 at T8 ⊢
                have k5 := (pl_looks T8.out).2.2.2.2.1
                have hs20 := F5.out.2.2
                go_wp2_with fail
                clear k5
                go_loopw [236] (fun iv w' => DnRel s2.done.length w9 iv w') (fun iv _ => s2.done.length - (intOf iv).toNat)
                case atStart => exact ⟨0, rfl, Nat.zero_le _, Below.refl _ _⟩
                case round =>
                  obtain ⟨m, rfl, hm, hbl⟩ := hrel
                  have Bm := hid hbl
                  clear hbl
                  obtain ⟨wm, rfl⟩ : ∃ wm : World, wm = wr := ⟨_, rfl⟩
                  by_cases hml : m < s2.done.length
                  · have hml' : (m : Int) < (s2.done.length : Int) := by omega
                    have Tm := hid (T8.out.below Bm.out)
                    have hm64 : -9223372036854775808 ≤ (m : Int) ∧ (m : Int) ≤ 9223372036854775807 := by omega
                    go_wp2_with fail
                    refine (pl_read Tm.out (m : Int) hm64).mono ?_
                    rintro e w5 ⟨v5, rfl, ho5, hb5⟩
                    obtain ⟨Lr, hLr⟩ : ∃ Lr, (readL s2 (m : Int)).1 = Lr := ⟨_, rfl⟩
                    obtain ⟨rr, hrr⟩ : ∃ rr, (readL s2 (m : Int)).2 = rr := ⟨_, rfl⟩
                    rw [hLr] at ho5
                    rw [hrr]
                    obtain ⟨a5, c5, e5, hbs5, hof5⟩ := ho5.bs
                    subst e5
                    have A5 := hid hbs5
                    have B5 := hid hb5
                    have HL := hid hLr
                    have Hr := hid hrr
                    clear ho5 hbs5 hof5 hb5 hLr hrr
                    go_wp2_with fail
                    refine (pl_get (Tm.out.below B5.out) (m : Int) hm64).mono ?_
                    rintro e w6 ⟨v6, rfl, ho6, hb6⟩
                    rw [HL.out] at ho6
                    rw [Hr.out]
                    obtain ⟨a6, c6, e6, hbs6, hof6⟩ := ho6.bs
                    subst e6
                    have A6 := hid hbs6
                    have B6 := hid hb6
                    clear ho6 hbs6 hof6 hb6
                    go_wp2_with fail
                    refine (same_calls _ _ _ _ _ _ _ (A5.out.below B6.out) A6.out).mono ?_
                    rintro e w7 ⟨rfl, rfl⟩
                    rw [beq_self_eq_true]
                    go_wp2_with fail
                    refine ⟨?_, by simp [intOf]; omega⟩
                    have R9 : DnRel s2.done.length w9 (.int .i64 ((m : Int) + 1)) w6 := ⟨m + 1, by go_num, by omega, Bm.out.trans ((B5.out.trans (B6.out.mono B5.out.size)).mono Bm.out.size)⟩
                    first | exact R9 | ((repeat apply Exists.intro); refine ⟨R9, ?_⟩; and_intros <;> rfl)
                  · obtain rfl : m = s2.done.length := by omega
                    have hml' : ¬ ((s2.done.length : Int) < (s2.done.length : Int)) := by omega
                    go_wp2_with fail
                    refine ⟨?_, by simp [intOf]; omega⟩
                    have R9 : PlRel1 wn B2 g d g2 dn dc l1.length (.int .i64 ((k : Int) + 1)) wm := ⟨k + 1, s2, by go_num, by omega, by omega, (T8.out.below Bm.out).less (by simp), F5.out⟩
                    first | exact R9 | ((repeat apply Exists.intro); refine ⟨R9, ?_⟩; and_intros <;> rfl)
        · by_cases h60 : k < l1.length
          · have Ho := hid (Hok.out _ (List.getElem_mem h60))
            obtain ⟨bo, off, rfl, hc⟩ := cs_row opV_length Hcs.out h60 (by decide)
            have W5 := Bn.out.trans (T.out.bel.mono Bn.out.size)
            have d0 := cell_later W5 (hc 0 _ rfl)
            have d1 := cell_later W5 (hc 1 _ rfl)
            have d2 := cell_later W5 (hc 2 _ rfl)
            have Wr := hid W5
            clear hc W5
            generalize l1[k] = o at Ho d0 d1 d2
            have h60' : (k : Int) < (l1.length : Int) := by omega
            have h60'' : (60 : Int) ≤ (k : Int) := by omega
            rw [Nat.add_zero] at d0
            obtain ⟨dd, i, ao, co, t⟩ := o
            dsimp only at d0 d1 d2
            go_wp2_with fail
            go_ret
            exact ⟨rfl, Wr.out.trans ((below_alloc wr _).mono Wr.out.size)⟩
          · have h60' : ¬ ((k : Int) < (l1.length : Int)) := by omega
            go_wp2_with fail
            go_ret
            exact ⟨rfl, Bn.out.trans (T.out.bel.mono Bn.out.size)⟩
end Go.Proofs.Ytoegnlabneafkaa
