/- BlockApart: what is put on one sector leaves all others as they are. -/
import Derived.Test.YtkaidbfpgdfpfaaDoorBlkL
import Derived.Test.YtkaidbfpgdfpfaaDoorBlockTurned
import Derived.Deep.CutRange
namespace Go.Proofs.YtkaidbfpgdfpfaaDoor
open Go.RowKit Go.Quad _root_.Quad _root_.Quad.Slab

def rwV (r : Option Addr × Nat × List UInt8) : List Value := [.slice r.1 r.2.2.length r.2.1]
theorem rwV_length (r : Option Addr × Nat × List UInt8) : (rwV r).length = 1 := rfl
theorem rows_open {w : World} {v : Value} (h : RV Tryd.prog w 48 v) :
    ∃ (a : Option Addr) (cap : Nat) (l : List (Option Addr × Nat × List UInt8)), v = .slice a l.length cap ∧ (∀ r ∈ l, BS w r.1 r.2.1 r.2.2) ∧ CS w a cap 1 (l.flatMap rwV) ∧ l.length ≤ cap := by
  obtain ⟨a, cap, E, rfl, hE, hl, hc⟩ := h.slice Tryd.underlying48 1 (by kernel_rfl) (by decide)
  have key : ∀ E : List (List Value), (∀ x ∈ E, x.length = 1 ∧ RC Tryd.prog w 22 x) → ∃ l : List (Option Addr × Nat × List UInt8), l.length = E.length ∧ E.flatten = l.flatMap rwV ∧ ∀ r ∈ l, BS w r.1 r.2.1 r.2.2 := by
    intro E
    induction E with
    | nil => intro _; exact ⟨[], rfl, rfl, by simp⟩
    | cons x E ih =>
      intro h
      obtain ⟨l, h1, h2, h3⟩ := ih fun y hy => h y (List.mem_cons_of_mem _ hy)
      obtain ⟨a, c, t, ho, hok⟩ := (h x (List.mem_cons_self ..)).2.bytes under_bytes under_u8 (by kernel_rfl)
      exact ⟨(a, c, t) :: l, by simp [h1], by rw [List.flatten_cons, h2, ho, List.flatMap_cons]; rfl, fun q hq => by
        rcases List.mem_cons.1 hq with rfl | hq
        · exact hok
        · exact h3 q hq⟩
  obtain ⟨l, h1, h2, h3⟩ := key E hE
  exact ⟨a, cap, l, by rw [h1], h3, by rw [← h2]; exact hc, by omega⟩

/-- six sectors, the power on, few writes -/
structure AP (s : Sl) (n : Nat) : Prop where
  len : s.done.length = 6
  off : s.off = false
  armed : s.armed = 0
  steps : s.steps ≤ n
  way : s.way.length ≤ n
theorem AP.write {s : Sl} {n : Nat} (h : AP s n) (i : Int) (t : Bytes) : AP (writeL s i t).1 (n + 1) := by
  unfold writeL
  split
  · exact ⟨h.len, h.off, h.armed, Nat.le_succ_of_le h.steps, Nat.le_succ_of_le h.way⟩
  · refine ⟨h.len, ?_, ?_, Nat.succ_le_succ h.steps, ?_⟩
    · show (if 0 < s.armed then decide (s.armed = 1) else s.off) = false
      rw [if_neg (by rw [h.armed]; omega)]; exact h.off
    · show s.armed - 1 = 0; rw [h.armed]
    · show (s.way ++ _).length ≤ _; have := h.way; simp; omega
theorem AP.on {s : Sl} {n : Nat} (h : AP s n) : (stepL s).off = false := by
  show (if 0 < s.armed then decide (s.armed = 1) else s.off) = false
  rw [if_neg (by rw [h.armed]; omega)]; exact h.off
theorem ap_new : AP (newL 6) 0 := ⟨rfl, rfl, rfl, Nat.le_refl _, Nat.le_refl _⟩
theorem AP.read {s : Sl} {n i : Nat} (h : AP s n) (hi : i < 6) : readL s (i : Int) = (seenL s i, 0) := readL_at (by rw [h.len]; exact hi) h.off
/-- what is put on one sector -/
theorem ap_put {s : Sl} {n k : Nat} {x : BlkD} (h : AP s n) (hk : k < 6) (hx : x.Ok) :
    (∀ i, i < 6 → i ≠ k → seenL (putB s (k : Int) x).1 i = seenL s i) ∧ (putB s (k : Int) x).1.done.length = 6 ∧ (putB s (k : Int) x).1.off = false ∧
    ((putB s (k : Int) x).2 ≠ 0 → seenL (putB s (k : Int) x).1 k = seenL s k) ∧ ((putB s (k : Int) x).2 = 0 → getB (putB s (k : Int) x).1 (k : Int) = (x, 0)) := by
  have hl := h.len
  by_cases h1 : 104 < x.data.length
  · have e : putB s (k : Int) x = (s, 3) := by unfold putB; rw [if_neg (by omega), if_pos h1]
    rw [e]
    exact ⟨fun _ _ _ => rfl, hl, h.off, fun _ => rfl, fun hh => absurd hh (by show ¬ ((3 : Nat) = 0); omega)⟩
  by_cases h2 : x.kind = 0
  · have e : putB s (k : Int) x = (s, 4) := by unfold putB; rw [if_neg (by omega), if_neg h1, if_pos h2]
    rw [e]
    exact ⟨fun _ _ _ => rfl, hl, h.off, fun _ => rfl, fun hh => absurd hh (by show ¬ ((4 : Nat) = 0); omega)⟩
  have e := putB_yes (s := s) (k := k) (x := x) (by omega) (by omega) h2 h.off
  have g := getB_put (s := s) (k := k) (x := x) (by omega) hx (by omega) h2 h.off h.on
  rw [e] at g ⊢
  rw [h.on]
  refine ⟨fun i hi hne => ?_, hl, rfl, fun hh => absurd rfl hh, fun _ => g⟩
  have := seen_last (stepL s) k i (encB x)
  rw [if_neg (fun e => hne e.symm)] at this
  exact this
def ApTo (w : World) (e : Ending) (w' : World) : Prop := e = .returned (.bool true) ∧ Below w.heap.size w w'
def ApRel (g : Nat) (w1 : World) (n : Nat) (iv : Value) (wr : World) : Prop := ∃ (j : Nat) (s : Sl), iv = .int .i64 (j : Int) ∧ j ≤ n ∧ AP s (min j 6) ∧ SA w1 g s wr
theorem pmin110 (n : Nat) : (if 110 < (n : Int) then 110 else (n : Int)) = ((min n 110 : Nat) : Int) := by split <;> omega
/-- the sectors that were read -/
def slV (r : Option Addr × Nat × Nat) : List Value := [.slice r.1 r.2.1 r.2.2]
theorem slV_length (r : Option Addr × Nat × Nat) : (slV r).length = 1 := rfl
theorem slV_one (r : Option Addr × Nat × Nat) : ∀ u ∈ slV r, u.oneCell' = true := by intro u hu; simp only [slV, List.mem_singleton] at hu; subst hu; rfl
def slO (r : Option Addr × Nat × Nat) : Value := .slice r.1 r.2.1 r.2.2
def WasRel (s : Sl) (w4 : World) (wv iv : Value) (wr : World) : Prop :=
  ∃ (j : Nat) (L : List (Option Addr × Nat × Nat)), iv = .int .i64 (j : Int) ∧ j ≤ 6 ∧ RO slV 1 wr w4.heap.size 22 wv L ∧ L.length = j ∧ (∀ i (h : i < L.length), OB wr w4.heap.size 5 (slO L[i]) (seenL s i) ∧ ∀ b, (slO L[i]).ownBlock = some b → wv.ownBlock ≠ some b) ∧ Below w4.heap.size w4 wr
theorem was_next {s : Sl} {w4 wr w5 w6 : World} {wv v6 : Value} {j : Nat} {L : List (Option Addr × Nat × Nat)} {r : Option Addr × Nat × Nat}
    (hL : L.length = j) (hrow : ∀ i (h : i < L.length), OB wr w4.heap.size 5 (slO L[i]) (seenL s i) ∧ ∀ b, (slO L[i]).ownBlock = some b → wv.ownBlock ≠ some b)
    (hwv : ∀ b, wv.ownBlock = some b → b < wr.heap.size) (hb : w4.heap.size ≤ wr.heap.size) (hr : OB w5 wr.heap.size 5 (slO r) (seenL s j)) (hb5 : Below wr.heap.size wr w5) (o : Obj)
    (hg : (w5.alloc o).grownBy w6 wv.ownBlock) (hv : v6.ownBlock = wv.ownBlock ∨ v6.ownBlock = some (w5.alloc o).heap.size) :
    ∀ i (h : i < (L ++ [r]).length), OB w6 w4.heap.size 5 (slO (L ++ [r])[i]) (seenL s i) ∧ ∀ b, (slO (L ++ [r])[i]).ownBlock = some b → v6.ownBlock ≠ some b := by
  have hc := chg_grown hg
  intro i h
  by_cases hi : i < L.length
  · rw [List.getElem_append_left hi]
    obtain ⟨h1, h2⟩ := hrow i hi
    have h3 := (h1.below hb5).below (below_alloc w5 o)
    refine ⟨h3.chg hc (fun q hq hm => h2 q hq (by simpa using hm)), fun b hb hv6 => ?_⟩
    rcases hv with hv | hv
    · exact h2 b hb (by rw [← hv]; exact hv6)
    · have := OB.ownLt h3 hb
      rw [hv] at hv6
      cases hv6
      omega
  · have hij : i = j := by rw [List.length_append] at h; simp at h; omega
    subst hij
    rw [List.getElem_append_right (by omega)]
    simp only [hL, Nat.sub_self, List.getElem_cons_zero]
    have h3 := hr.below (below_alloc w5 o)
    refine ⟨(h3.chg hc (fun q hq hm => ?_)).base hb, fun b hb' hv6 => ?_⟩
    · have h4 := OB.ownBlock hr q hq
      have := hwv q (by simpa using hm)
      omega
    · have h4 := OB.ownBlock hr b hb'
      rcases hv with hv | hv
      · have := hwv b (by rw [← hv]; exact hv6)
        omega
      · have := OB.ownLt h3 hb'
        rw [hv] at hv6
        cases hv6
        omega
def CmpRel (w7 : World) (iv : Value) (wr : World) : Prop := ∃ j : Nat, iv = .int .i64 (j : Int) ∧ j ≤ 6 ∧ Below w7.heap.size w7 wr

set_option maxRecDepth 100000 in
set_option maxHeartbeats 4000000 in
theorem blockApart_walk (n0 : Int) (v1 v2 : Value) (w : World) (hn0 : (Lit.int .u8 n0).wf = true) (h1 : RV Tryd.prog w 34 v1) (h2 : RV Tryd.prog w 48 v2) (hq : Laid w) :
    Calls Tryd.prog 5 #[.int .u8 n0, v1, v2] w (ApTo w) := by
  obtain ⟨x0, a0, c0, rfl, hx0, hd0⟩ := blk_open h1
  obtain ⟨ra, rc, R, rfl, hR, hRc, hRl⟩ := rows_open h2
  obtain ⟨at0, rfl, hat⟩ := un8 hn0
  have hm := hd0.max'
  have hf := hd0.fit'
  have hRm : R.length ≤ 9223372036854775807 := by have := hRc.max; unfold maxLen at this; omega
  obtain ⟨k, hk⟩ : ∃ k, min x0.data.length 110 = k := ⟨_, rfl⟩
  have hpm := pmin110 x0.data.length
  rw [hk] at hpm
  have HP := hid hpm
  have hk1 : k ≤ x0.data.length := by omega
  have hk2 : k ≤ 110 := by omega
  have hkc : (k : Int) ≤ (c0 : Int) := by omega
  obtain ⟨x, hx⟩ : ∃ x, cutX x0 k = x := ⟨_, rfl⟩
  have hxd : x.data = x0.data.take k := by rw [← hx]; rfl
  have HT := hid (show x.data.length = k from by rw [hxd, List.length_take]; omega)
  have T0 := hid (show BS w a0 c0 x.data from by rw [hxd]; exact hd0.take k)
  have XO := hid (show x.Ok from by rw [← hx]; exact ⟨hx0.kind, hx0.epoch, hx0.a, hx0.b⟩)
  have ek : x0.kind = x.kind := by rw [← hx]; rfl
  have ee : x0.epoch = x.epoch := by rw [← hx]; rfl
  have ea : x0.a = x.a := by rw [← hx]; rfl
  have eb : x0.b = x.b := by rw [← hx]; rfl
  obtain ⟨n1, hn1⟩ : ∃ n1, x0.data.length = n1 := ⟨_, rfl⟩
  unfold blkV
  rw [ek, ee, ea, eb, hn1]
  rw [hn1] at HP hm hf
  obtain ⟨rn, hrn⟩ : ∃ rn, R.length = rn := ⟨_, rfl⟩
  rw [hrn] at hRl hRm ⊢
  have HRn := hid hrn
  have HRR := hid hR
  have HRC := hid hRc
  have hrnb : (rn : Int) ≤ 9223372036854775807 := by omega
  have HK2 := hid hk2
  have HQ := hid hq
  have hkb : (k : Int) ≤ 110 := by omega
  have hat' : (at0 : Int) ≤ 255 := by omega
  have HA := hid hat
  have B0 := hid (below_alloc w (.cells #[.int .u8 (x.kind : Int), .int .u32 (x.epoch : Int), .int .u32 (x.a : Int), .int .u32 (x.b : Int), .slice a0 n1 c0] 34))
  have K0 := hid (blk_alloc w [.int .u8 (x.kind : Int), .int .u32 (x.epoch : Int), .int .u32 (x.a : Int), .int .u32 (x.b : Int), .slice a0 n1 c0] 34)
  clear hk hpm hq hx hxd ek ee ea eb hn0 h1 h2 hn1 hd0 hx0 hk1 hk2 hat hR hRc hrn hRl hRm
  go_enter Tryd.func5, Tryd.ntmps5
  go_wp2_with fail
  refine (bawake_calls _ (HQ.out.below B0.out HQ.out.1)).mono ?_
  rintro e w1 ⟨rfl, hb1⟩
  have K1 := hid (K0.out.below hb1)
  have B1 := hid (B0.out.trans (hb1.mono B0.out.size))
  clear hb1 K0 B0
  obtain ⟨z, hz⟩ : ∃ z, w.heap.size = z := ⟨_, rfl⟩
  rw [hz] at K1 ⊢
  have Hz := hid hz
  clear hz
  go_wp2_with fail
  refine (sa_new _ 6 (by decide)).mono ?_
  rintro e w2 ⟨g, rfl, h2⟩
  have S2 := hid h2
  clear h2
  have L1 := hid (HQ.out.below B1.out HQ.out.1)
  go_wp2_with fail
  go_loopw [32] (fun iv wr => ApRel g w1 rn iv wr) (fun iv _ => rn - (intOf iv).toNat)
  case atStart => exact ⟨0, _, rfl, Nat.zero_le _, ap_new, S2.out⟩
  case round =>
    clear S2
    obtain ⟨j, s, rfl, hj, hap, hsa⟩ := hrel
    have AP1 := hid hap
    have SA1 := hid hsa
    clear hap hsa
    by_cases hlt : j < rn
    · have hlt' : (j : Int) < (rn : Int) := by omega
      have hjR : j < R.length := by rw [HRn.out]; exact hlt
      have BW := hid (B1.out.trans (SA1.out.2.mono B1.out.size))
      obtain ⟨rb, roff, rfl, hcell⟩ := cs_row rwV_length (HRC.out.below BW.out) hjR (by decide)
      have d0 := hcell 0 _ rfl
      rw [Nat.mul_one, Nat.add_zero] at d0
      obtain ⟨r, hr⟩ : ∃ r, R[j] = r := ⟨_, rfl⟩
      have hrB : BS w r.1 r.2.1 r.2.2 := by rw [← hr]; exact HRR.out _ (List.getElem_mem _)
      rw [hr] at d0
      obtain ⟨pa, pc, pl⟩ := r
      dsimp only at hrB d0
      have RB := hid hrB
      have pm := hrB.max'
      have pf := hrB.fit'
      clear hcell hr hrB
      obtain ⟨m, hm2⟩ : ∃ m, min pl.length 128 = m := ⟨_, rfl⟩
      have hpm2 := pmin128 pl.length
      rw [hm2] at hpm2
      have HP2 := hid hpm2
      have hm3 : (m : Int) ≤ (pc : Int) := by omega
      have hm128 : m ≤ 128 := by omega
      have hml : m ≤ pl.length := by omega
      clear hpm2 hm2
      by_cases h6 : j < 6
      · have h6' : (j : Int) < 6 := by omega
        have TT := hid (RB.out.take m)
        have TL := hid (show (pl.take m).length = m from by rw [List.length_take]; omega)
        have hW := sa_write w1 wr g s (j : Int) pa pc (pl.take m) SA1.out (by omega) (TT.out.below BW.out) (by have := AP1.out.steps; omega) (by have := AP1.out.way; omega) (SA.off_old TT.out B1.out.size)
        rw [TL.out] at hW
        have HW := hid hW
        clear hW
        have m0 := HP2.out
        go_wp2_with (go_at_call 11; refine HW.out.mono ?_; rintro e w3 ⟨rfl, h3⟩; have S3 := hid h3; clear h3)
        have R3 : ApRel g w1 rn (.int .i64 ((j : Int) + 1)) w3 := ⟨j + 1, _, by go_num, by omega, by rw [show min (j + 1) 6 = min j 6 + 1 from by omega]; exact AP1.out.write _ _, S3.out⟩
        refine ⟨?_, by simp [intOf]; omega⟩
        first | exact R3 | ((repeat apply Exists.intro); refine ⟨R3, ?_⟩; and_intros <;> rfl)
      · have h6' : ¬ ((j : Int) < 6) := by omega
        go_wp2_with fail
        have R3 : ApRel g w1 rn (.int .i64 ((j : Int) + 1)) wr := ⟨j + 1, _, by go_num, by omega, by rw [show min (j + 1) 6 = min j 6 from by omega]; exact AP1.out, SA1.out⟩
        refine ⟨?_, by simp [intOf]; omega⟩
        first | exact R3 | ((repeat apply Exists.intro); refine ⟨R3, ?_⟩; and_intros <;> rfl)
    · obtain rfl : j = rn := by omega
      have hlt' : ¬ ((j : Int) < (j : Int)) := by omega
      obtain ⟨w4, rfl⟩ : ∃ w4 : World, w4 = wr := ⟨_, rfl⟩
      have A4 := hid (show AP s 6 from ⟨AP1.out.len, AP1.out.off, AP1.out.armed, by have := AP1.out.steps; omega, by have := AP1.out.way; omega⟩)
      obtain ⟨⟨d, wv, hI⟩, hI2⟩ := SA1.out
      have I4 := hid hI
      have B4 := hid (B1.out.trans (hI2.mono B1.out.size))
      have K4 := hid (K1.out.belowAt hI2 (by have := K1.out.lt; exact this))
      have Z4 := hid (show z < w1.heap.size from K1.out.lt)
      clear hI hI2 AP1 SA1 K1
      go_wp2_with fail
      go_loopw [11, 48] (fun wv iv wr => WasRel s w4 wv iv wr) (fun _ iv _ => 6 - (intOf iv).toNat)
      case atStart => exact ⟨0, [], rfl, by omega, RO.nil _ _ _ _ _, rfl, by simp, Below.refl _ _⟩
      case round =>
        obtain ⟨j', L, rfl, hj', hro, hL, hrow, hb⟩ := hrel
        obtain ⟨wa, wn, wc, rfl, hwn, hwnc, _⟩ := hro.cs
        have RO5 := hid hro
        have HL := hid hL
        have ROW := hid hrow
        have B5 := hid hb
        have WN := hid hwn
        clear hro hL hrow hb hwn hwnc
        by_cases hj6 : j' < 6
        · have hj6' : (j' : Int) < 6 := by omega
          have hRd := read_any wr w1.heap.size g d wv s (j' : Int) (I4.out.below B5.out) (by omega)
          rw [A4.out.read hj6] at hRd
          have HRd := hid hRd
          clear hRd
          have wn6 : (wn : Int) ≤ 6 := by have := WN.out; have := HL.out; omega
          go_upto_region 15 with (go_at_call 20; refine HRd.out.mono ?_; rintro e w5 ⟨v5, rfl, ho5, hb5⟩; dsimp only at ho5; dsimp only; obtain ⟨a5, n5, c5, e5, hl5, _, _⟩ := ob_n ho5; subst e5; have O5 := hid ho5; have B5a := hid hb5; clear ho5 hb5 hl5)
          have L2 := hid (cs_lit w5 (slV (a5, n5, c5)) 22 1 1 rfl (by simp [maxLen]))
          have RO6 := hid ((RO5.out.below B5a.out).below (below_alloc w5 (.cells #[.slice a5 n5 c5] 22)))
          go_wp2_with (at_builtin; go_must (refine wpList_append_ro slV_length slV_one (by decide) (.tmp 57) (.tmp 59) _ rfl rfl w4.heap.size 22 _ 24 info_sec rfl under_secs _ _ RO6.out rfl (l' := [(a5, n5, c5)]) rfl (show CS _ _ _ _ ([(a5, n5, c5)].flatMap slV) from L2.out) (Nat.le_refl _) rfl (by have := HL.out; simp; omega) (by have := B5.out.size; have := B5a.out.size; simp; omega) ?_; intro v6 w6 ho6 hb6 hg6 hw6))
          have hnx := was_next (s := s) (r := (a5, n5, c5)) HL.out ROW.out (fun b hb => (World.ownsRow.lt RO5.out b hb).2) B5.out.size O5.out B5a.out _ hg6 hw6
          have R5 : WasRel s w4 v6 (.int .i64 ((j' : Int) + 1)) w6 := ⟨j' + 1, L ++ [(a5, n5, c5)], by go_num, by omega, ho6, by rw [List.length_append, HL.out]; rfl, hnx, (B5.out.trans ((B5a.out.trans ((below_alloc w5 _).mono B5a.out.size)).mono B5.out.size)).trans hb6⟩
          have HR5 := hid R5
          clear R5 hnx ho6 hb6 hg6 hw6
          go_wp2_with fail
          refine ⟨?_, by simp [intOf]; omega⟩
          first | exact HR5.out | ((repeat apply Exists.intro); refine ⟨HR5.out, ?_⟩; and_intros <;> rfl)
        · obtain rfl : j' = 6 := by omega
          have hj6' : ¬ ((6 : Int) < 6) := by omega
          obtain ⟨w6, rfl⟩ : ∃ w6 : World, w6 = wr := ⟨_, rfl⟩
          have I6 := hid (I4.out.below B5.out)
          have K6 := hid (K4.out.below B5.out)
          have m0 := HP.out
          have d4 := K6.out.get 4 rfl
          have f4 := K6.out.free 4
          go_upto_region 19 with fail
          clear m0 d4 f4
          have hc7 := chg_setCell w6 z 4 (.slice a0 k c0)
          have hS : ∀ q ∈ slS g d wv, w1.heap.size ≤ q ∧ q < w4.heap.size := fun q hq => I4.out.in_ge q hq
          have K7 := hid (K6.out.set 4 (.slice a0 k c0))
          simp only [List.set_cons_succ, List.set_cons_zero] at K7
          have I7 := hid (I6.out.chg hc7 (by intro q hq hm; have := hS q hm; have := Z4.out; simp at hq; omega))
          have RO7 := hid (RO5.out.chg hc7 (fun q hq => by have := (RO5.out.ownBlock q hq).1; have := K4.out.lt; simp; omega))
          have ROW7 := hid (show ∀ i (h : i < L.length), OB (w6.setCell ⟨z, 4, none⟩ (.slice a0 k c0)) w4.heap.size 5 (slO L[i]) (seenL s i) from fun i h => (ROW.out i h).1.chg hc7 (fun q hq hm => by have := OB.ownBlock (ROW.out i h).1 q hq; have := K4.out.lt; simp at hm; omega))
          have B7 := hid ((B4.out.trans (B5.out.mono B4.out.size)).trans (hc7.below (Nat.le_trans B4.out.size B5.out.size) (by simp; exact Nat.le_of_eq Hz.out)))
          have SZ7 := hid (show w4.heap.size ≤ (w6.setCell ⟨z, 4, none⟩ (.slice a0 k c0)).heap.size from Nat.le_trans B5.out.size hc7.size)
          generalize (w6.setCell ⟨z, 4, none⟩ (.slice a0 k c0)) = w7 at K7 I7 RO7 ROW7 B7 SZ7 ⊢
          clear hc7 K6 I6 RO5 ROW B5
          have HS := hid hS
          clear hS
          obtain ⟨kk, hkk⟩ : ∃ kk, at0 % 6 = kk := ⟨_, rfl⟩
          have hkk6 : kk < 6 := by omega
          have hki : (at0 : Int) % 6 = (kk : Int) := by omega
          have HKI := hid hki
          have LQ := hid (HQ.out.below B7.out HQ.out.1)
          have hPut := put_any w7 w1.heap.size g d wv s (kk : Int) a0 k c0 x I7.out (by omega) XO.out (T0.out.below B7.out) HT.out LQ.out (by have := A4.out.steps; omega) (by have := A4.out.way; omega)
          have hap := ap_put (x := x) A4.out hkk6 XO.out
          obtain ⟨S', hS'⟩ : ∃ S', putB s (kk : Int) x = S' := ⟨_, rfl⟩
          rw [hS'] at hPut hap
          obtain ⟨s7, er⟩ := S'
          dsimp only at hap
          have HAP := hid hap
          have HPut := hid hPut
          clear hkk hki hap hPut hS'
          have hki := HKI.out
          go_upto_region 20 with (first | (refine wpList_load_blk (o := ⟨some 75, _, _, _, _, _⟩) 34 (.tmp 4) rfl rfl z [.int .u8 (x.kind : Int), .int .u32 (x.epoch : Int), .int .u32 (x.a : Int), .int .u32 (x.b : Int), .slice a0 k c0] 34 rfl K7.out ⟨_, Tryd.underlying34, rfl⟩ size_rblk ?_) | (go_at_call 21; refine HPut.out.mono ?_; rintro e w8 ⟨wv8, rfl, q1, q2, q3⟩; have I8 := hid q1; have C8 := hid q2; clear q1 q2 q3))
          clear hki
          have hoff : ∀ q, w4.heap.size ≤ q → q ∉ slS g d wv := fun q hq hm => by have := HS.out q hm; omega
          have RO8 := hid (RO7.out.chg C8.out (fun q hq => hoff q (RO7.out.ownBlock q hq).1))
          have ROW8 := hid (show ∀ i (h : i < L.length), OB w8 w4.heap.size 5 (slO L[i]) (seenL s i) from fun i h => (ROW7.out i h).chg C8.out (fun q hq => hoff q (OB.ownBlock (ROW7.out i h) q hq)))
          have K8 := hid (K7.out.keep C8.out (fun hm => by have := HS.out z hm; have := Z4.out; omega))
          have B8 := hid (B7.out.trans (C8.out.below B7.out.size (fun q hq => by have := HS.out q hq; have := B1.out.size; omega)))
          clear hoff K7 I7 RO7 ROW7 B7 HPut C8
          have wnI : (wn : Int) = 6 := by have := WN.out; have := HL.out; omega
          have WNI := hid wnI
          clear wnI
          go_wp2_with fail
          go_loopw [77] (fun iv wr => CmpRel w8 iv wr) (fun iv _ => 6 - (intOf iv).toNat)
          case atStart => exact ⟨0, rfl, by omega, Below.refl _ _⟩
          case round =>
            obtain ⟨q, rfl, hq6, hbq⟩ := hrel
            have B9 := hid hbq
            clear hbq
            by_cases hql : q < 6
            · have hql' : (q : Int) < 6 := by omega
              have hRd := read_any wr w1.heap.size g d wv8 s7 (q : Int) (I8.out.below B9.out) (by omega)
              rw [readL_at (s := s7) (i := q) (by rw [HAP.out.2.1]; exact hql) HAP.out.2.2.1] at hRd
              have HRd := hid hRd
              have QL := hid hql
              clear hRd hql
              go_upto_region 24 with (go_at_call 20; refine HRd.out.mono ?_; rintro e w9 ⟨v9, rfl, ho9, hb9⟩; dsimp only at ho9; dsimp only; obtain ⟨a9, n9, c9, e9, hl9, hs9, _⟩ := ob_n ho9; subst e9; have S9 := hid hs9; have L9 := hid hl9; have B9a := hid (B9.out.trans (hb9.mono B9.out.size)); clear ho9 hb9 hl9 hs9)
              by_cases hqk : q = kk
              · have hqk' : ((q : Int) != (kk : Int)) = false := by simp; omega
                clear hqk
                go_wp2_with fail
                have R9 : CmpRel w8 (.int .i64 ((q : Int) + 1)) w9 := ⟨q + 1, by go_num, by have := QL.out; omega, B9a.out⟩
                refine ⟨?_, by simp [intOf]; omega⟩
                first | exact R9 | ((repeat apply Exists.intro); refine ⟨R9, ?_⟩; and_intros <;> rfl)
              · have hqk' : ((q : Int) != (kk : Int)) = true := by simp; omega
                have HSE := hid (HAP.out.1 q QL.out hqk)
                clear hqk
                obtain ⟨rb, roff, ewa, hcell⟩ := cs_row slV_length (w := w9) (l := L) (a := wa) (cap := wc) (by obtain ⟨a9, n9, c9, e9, _, _, hcs⟩ := (RO8.out.below B9a.out).cs; cases e9; exact hcs) (k := q) (by rw [HL.out]; exact QL.out) (by decide)
                subst ewa
                obtain ⟨⟨ra7, rn7, rc7⟩, hr7⟩ : ∃ r7, L[q]'(by rw [HL.out]; exact QL.out) = r7 := ⟨_, rfl⟩
                have hrow7 := (ROW8.out q (by rw [HL.out]; exact QL.out)).below B9a.out
                rw [hr7] at hcell hrow7
                have d0 := hcell 0 _ rfl
                rw [Nat.mul_one, Nat.add_zero] at d0
                obtain ⟨aq, nq, cq, eq, hlq, hbq, _⟩ := ob_n hrow7
                simp only [slO, Value.slice.injEq] at eq
                obtain ⟨rfl, rfl, rfl⟩ := eq
                have HLQ := hid hlq
                have HBQ := hid hbq
                clear hcell hrow7 hlq hbq hr7
                have hwn7 : (q : Int) < (wn : Int) := by have := WNI.out; omega
                have wnb : (wn : Int) ≤ 6 := by have := WNI.out; omega
                go_wp2_with (go_at_call 22; refine (same_n a9 ra7 n9 rn7 c9 rc7 _ _ w9 S9.out HBQ.out L9.out HLQ.out).mono ?_; rintro e w10 ⟨rfl, rfl⟩; rw [HSE.out, beq_self_eq_true])
                have R9 : CmpRel w8 (.int .i64 ((q : Int) + 1)) w9 := ⟨q + 1, by go_num, by have := QL.out; omega, B9a.out⟩
                refine ⟨?_, by simp [intOf]; omega⟩
                first | exact R9 | ((repeat apply Exists.intro); refine ⟨R9, ?_⟩; and_intros <;> rfl)
            · obtain rfl : q = 6 := by omega
              have hql' : ¬ ((6 : Int) < 6) := by omega
              have HK6 := hid hkk6
              clear hql hkk6
              by_cases her : er = 0
              case' neg =>
                have her' : ((er : Int) != 0) = true := by simp; exact her
                have HSE := hid (HAP.out.2.2.2.1 her)
                clear her
                have hRd := read_any wr w1.heap.size g d wv8 s7 (kk : Int) (I8.out.below B9.out) (by have := HK6.out; omega)
                rw [readL_at (s := s7) (i := kk) (by rw [HAP.out.2.1]; exact HK6.out) HAP.out.2.2.1] at hRd
                have HRd := hid hRd
                clear hRd
                go_upto_region 29 with (go_at_call 20; refine HRd.out.mono ?_; rintro e w9 ⟨v9, rfl, ho9, hb9⟩; dsimp only at ho9; dsimp only; obtain ⟨a9, n9, c9, e9, hl9, hs9, _⟩ := ob_n ho9; subst e9; have S9 := hid hs9; have L9 := hid hl9; have B9a := hid (B9.out.trans (hb9.mono B9.out.size)); clear ho9 hb9 hl9 hs9)
                obtain ⟨rb, roff, ewa, hcell⟩ := cs_row slV_length (w := w9) (l := L) (a := wa) (cap := wc) (by obtain ⟨a9, n9, c9, e9, _, _, hcs⟩ := (RO8.out.below B9a.out).cs; cases e9; exact hcs) (k := kk) (by rw [HL.out]; exact HK6.out) (by decide)
                subst ewa
                obtain ⟨⟨ra7, rn7, rc7⟩, hr7⟩ : ∃ r7, L[kk]'(by rw [HL.out]; exact HK6.out) = r7 := ⟨_, rfl⟩
                have hrow7 := (ROW8.out kk (by rw [HL.out]; exact HK6.out)).below B9a.out
                rw [hr7] at hcell hrow7
                have d0 := hcell 0 _ rfl
                rw [Nat.mul_one, Nat.add_zero] at d0
                obtain ⟨aq, nq, cq, eq, hlq, hbq, _⟩ := ob_n hrow7
                simp only [slO, Value.slice.injEq] at eq
                obtain ⟨rfl, rfl, rfl⟩ := eq
                have HLQ := hid hlq
                have HBQ := hid hbq
                clear hcell hrow7 hlq hbq hr7
                have hwn7 : (kk : Int) < (wn : Int) := by have := WNI.out; have := HK6.out; omega
                have wnb : (wn : Int) ≤ 6 := by have := WNI.out; omega
                go_wp2_with (go_at_call 22; refine (same_n a9 ra7 n9 rn7 c9 rc7 _ _ w9 S9.out HBQ.out L9.out HLQ.out).mono ?_; rintro e w10 ⟨rfl, rfl⟩; rw [HSE.out, beq_self_eq_true])
                go_ret
                exact ⟨rfl, B8.out.trans (B9a.out.mono B8.out.size)⟩
              have her' : ((er : Int) != 0) = false := by simp; exact her
              have HG := hid (HAP.out.2.2.2.2 her)
              clear her
              have hG := bget_calls wr w1.heap.size g d wv8 s7 (kk : Int) (I8.out.below B9.out) (by have := HK6.out; omega) (HQ.out.below (B8.out.trans (B9.out.mono B8.out.size)) HQ.out.1)
              rw [HG.out] at hG
              have HGG := hid hG
              clear hG
              go_upto_region 31 with (first | (go_at_call 12; refine HGG.out.mono ?_; rintro e w9 ⟨a7, n7, c7, rfl, hn7, hO7, hb7⟩; dsimp only at hn7 hO7; dsimp only; have N7 := hid hn7; have O7 := hid hO7; have B7 := hid (B9.out.trans (hb7.mono B9.out.size)); clear hn7 hO7 hb7) | (refine wpListQ_alloc (o := ⟨some 22, _, _, _, _, _⟩) 31 rfl rfl zblk 5 info_blk ?_) | (refine wpListQ_store_new (o := ⟨none, _, 0, _, _, _⟩) rfl 31 (.tmp 22) (.tmp 117) rfl zblk #[.int .u8 (x.kind : Int), .int .u32 (x.epoch : Int), .int .u32 (x.a : Int), .int .u32 (x.b : Int), .slice a7 n7 c7] rfl rfl size_blk rfl (all_oneCell_toArray (by intro u hu; simp only [List.mem_cons, List.not_mem_nil, or_false] at hu; rcases hu with rfl | rfl | rfl | rfl | rfl <;> rfl)) ?_))
              have hb10 := below_alloc w9 (.cells #[.int .u8 (x.kind : Int), .int .u32 (x.epoch : Int), .int .u32 (x.a : Int), .int .u32 (x.b : Int), .slice a7 n7 c7] 31)
              have KB := hid (blk_alloc w9 [.int .u8 (x.kind : Int), .int .u32 (x.epoch : Int), .int .u32 (x.a : Int), .int .u32 (x.b : Int), .slice a7 n7 c7] 31)
              replace O7 := hid (O7.out.below hb10)
              replace K8 := hid ((K8.out.below B7.out).below hb10)
              replace B8 := hid ((B8.out.trans (B7.out.mono B8.out.size)).trans (hb10.mono (Nat.le_trans B8.out.size B7.out.size)))
              generalize (w9.alloc (.cells #[.int .u8 (x.kind : Int), .int .u32 (x.epoch : Int), .int .u32 (x.a : Int), .int .u32 (x.b : Int), .slice a7 n7 c7] 31)) = w10 at KB O7 K8 B8 hb10 ⊢
              obtain ⟨y, hy⟩ : ∃ y, w9.heap.size = y := ⟨_, rfl⟩
              rw [hy] at KB ⊢
              clear hb10 hy HGG
              go_wp2_with (first | (refine wpList_load_blk (o := ⟨some 122, _, _, _, _, _⟩) 31 (.tmp 22) rfl rfl y [.int .u8 (x.kind : Int), .int .u32 (x.epoch : Int), .int .u32 (x.a : Int), .int .u32 (x.b : Int), .slice a7 n7 c7] 31 rfl KB.out ⟨_, Tryd.underlying31, rfl⟩ size_blk ?_) | (refine wpList_load_blk (o := ⟨some 123, _, _, _, _, _⟩) 34 (.tmp 4) rfl rfl z [.int .u8 (x.kind : Int), .int .u32 (x.epoch : Int), .int .u32 (x.a : Int), .int .u32 (x.b : Int), .slice a0 k c0] 34 rfl K8.out ⟨_, Tryd.underlying34, rfl⟩ size_rblk ?_) | (go_at_call 14; refine (rsame_calls w10 x a7 a0 n7 k c7 c0 O7.out.bsN N7.out (T0.out.below B8.out) HT.out).mono ?_; rintro e w11 ⟨rfl, hb11⟩; have B11 := hid hb11; clear hb11))
              go_ret
              exact ⟨rfl, B8.out.trans (B11.out.mono B8.out.size)⟩
end Go.Proofs.YtkaidbfpgdfpfaaDoor
