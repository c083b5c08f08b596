/- SlabArms: the power goes at just the step that was told. -/
import Derived.Test.YtoegnlabneafkaaSlabOps
import Derived.Test.YtoegnlabneafkaaZeros
namespace Go.Proofs.Ytoegnlabneafkaa
open Go.RowKit Go.Quad _root_.Quad.Slab

/-- behind i steps, of which the k-th was to be the last -/
structure ArmSt (k i : Nat) (s : Sl) : Prop where
  len : s.done.length = 4
  steps : s.steps = min i k
  off : s.off = decide (k ≤ i)
  armed : i < k → s.armed = k - i
  ways : s.way.length ≤ i

theorem ArmSt.step {k i : Nat} {s : Sl} (h : ArmSt k i s) (hi : i < k) : (stepL s).steps = min (i + 1) k ∧ (stepL s).off = decide (k ≤ i + 1) ∧ (i + 1 < k → (stepL s).armed = k - (i + 1)) := by
  have ha := h.armed hi
  have hs := h.steps
  refine ⟨?_, ?_, fun _ => ?_⟩
  · show s.steps + 1 = _; omega
  · show (if 0 < s.armed then decide (s.armed = 1) else s.off) = _
    rw [if_pos (by omega), ha]
    by_cases h1 : k ≤ i + 1
    · rw [decide_eq_true h1, decide_eq_true (by omega)]
    · rw [decide_eq_false h1, decide_eq_false (by omega)]
  · show s.armed - 1 = _; omega

theorem ArmSt.write {k i : Nat} {s : Sl} (h : ArmSt k i s) (j : Nat) (hj : j < 4) (t : Bytes) (ht : t.length ≤ 128) : ArmSt k (i + 1) (writeL s j t).1 ∧ (writeL s j t).2 = if i + 1 < k then 0 else 13 := by
  by_cases hi : i < k
  · have ho : s.off = false := by rw [h.off]; simp; omega
    have e : hasL s j t.length = 0 := by unfold hasL; rw [if_neg (by have := h.len; omega), if_neg (by omega), if_neg (by rw [ho]; simp)]
    obtain ⟨h1, h2, h3⟩ := h.step hi
    have ew : writeL s j t = ({ stepL s with way := s.way ++ [((j : Int).toNat, pad t)] }, if (stepL s).off then 13 else 0) := by unfold writeL; rw [if_neg (by rw [e]; simp)]
    rw [ew]
    refine ⟨⟨h.len, h1, h2, h3, by have := h.ways; simp; omega⟩, ?_⟩
    dsimp only
    rw [h2]
    by_cases h4 : i + 1 < k
    · rw [if_pos h4, if_neg (by simp; omega)]
    · rw [if_neg h4, if_pos (by simp; omega)]
  · have ho : s.off = true := by rw [h.off]; simp; omega
    have e : hasL s j t.length = 13 := by unfold hasL; rw [if_neg (by have := h.len; omega), if_neg (by omega), if_pos ho]
    have ew : writeL s j t = (s, 13) := by unfold writeL; rw [if_pos (by rw [e]; simp), e]
    rw [ew]
    exact ⟨⟨h.len, by rw [h.steps]; omega, by rw [h.off]; simp; omega, by omega, Nat.le_succ_of_le h.ways⟩, by rw [if_neg (by omega)]⟩

theorem foldl_set_len : ∀ (l : List (Nat × Bytes)) (D : List Bytes), (l.foldl (fun d w => d.set w.1 w.2) D).length = D.length
  | [], D => rfl
  | x :: l, D => by rw [List.foldl_cons, foldl_set_len l]; simp

theorem ArmSt.flush {k i : Nat} {s : Sl} (h : ArmSt k i s) : ArmSt k (i + 1) (flushL s).1 ∧ (flushL s).2 = if i + 1 < k then 0 else 13 := by
  by_cases hi : i < k
  · have ho : s.off = false := by rw [h.off]; simp; omega
    obtain ⟨h1, h2, h3⟩ := h.step hi
    unfold flushL
    rw [if_neg (by rw [ho]; simp)]
    by_cases h4 : i + 1 < k
    · have h5 : (stepL s).off = false := by rw [h2]; simp; omega
      rw [if_neg (by rw [h5]; simp), if_pos h4]
      exact ⟨⟨((foldl_set_len s.way s.done).trans h.len), h1, h2, h3, by simp⟩, rfl⟩
    · have h5 : (stepL s).off = true := by rw [h2]; simp; omega
      rw [if_pos h5, if_neg h4]
      exact ⟨⟨h.len, h1, h2, h3, by have := h.ways; show s.way.length ≤ _; omega⟩, rfl⟩
  · have ho : s.off = true := by rw [h.off]; simp; omega
    unfold flushL
    rw [if_pos ho, if_neg (by omega)]
    exact ⟨⟨h.len, by rw [h.steps]; omega, by rw [h.off]; simp; omega, by omega, Nat.le_succ_of_le h.ways⟩, rfl⟩

theorem ArmSt.start (k : Nat) (hk : 1 ≤ k) : ArmSt k 0 (armL (newL 4) (k : Int)).1 := by
  unfold armL
  rw [if_neg (by omega)]
  exact ⟨by simp [newL], by simp [newL], by simp [newL]; omega, by simp, by simp [newL]⟩

/-- a slab, the cell that holds it, the cell that holds the count -/
def ArmAt (wn : World) (g d q5 q8 i : Nat) (s : Sl) (w : World) : Prop :=
  ∃ wv, IsSlab w wn.heap.size g d wv s ∧ Blk w q5 [.pointer (some ⟨g, 0, none⟩)] 24 ∧ Blk w q8 [.int .i64 (i : Int)] 3 ∧ q5 ∉ slS g d wv ∧ Below wn.heap.size wn w

theorem ArmAt.below {wn : World} {g d q5 q8 i : Nat} {s : Sl} {w w' : World} (h : ArmAt wn g d q5 q8 i s w) (hb : Below w.heap.size w w') : ArmAt wn g d q5 q8 i s w' := by
  obtain ⟨wv, h1, h2, h3, h4, h5⟩ := h
  exact ⟨wv, h1.below hb, h2.below hb, h3.below hb, h4, h5.trans (hb.mono h5.size)⟩

theorem armAt_of {wn w w' : World} {g d q5 q8 i r : Nat} {wv : Value} {s s' : Sl} {e : Ending} (h : IsSlab w wn.heap.size g d wv s) (h5 : Blk w q5 [.pointer (some ⟨g, 0, none⟩)] 24) (h8 : Blk w q8 [.int .i64 (i : Int)] 3)
    (hn : q5 ∉ slS g d wv ∧ q8 ∉ slS g d wv) (hb : Below wn.heap.size wn w) (ht : SlabTo w wn.heap.size g d wv s' r e w') :
    ∃ v, e = .returned v ∧ Chg (slS g d wv) w w' ∧ (v = .int .i64 (r : Int) ∧ ArmAt wn g d q5 q8 i s' w') := by
  obtain ⟨wv', rfl, h1, h2, h3⟩ := ht
  refine ⟨_, rfl, h2, rfl, wv', h1, h5.keep h2 hn.1, h8.keep h2 hn.2, ?_, hb.trans (h2.below hb.size fun k hk => (h.in_ge k hk).1)⟩
  intro hm
  simp only [slS, List.mem_cons] at hm
  rcases hm with hm | hm | hm
  · exact hn.1 (by simp [slS, hm])
  · exact hn.1 (by simp [slS, hm])
  · rcases h3 q5 (by simpa using hm) with h4 | h4
    · exact hn.1 h4
    · have := h5.lt; omega

theorem run_slabp_at (w : World) (g i : Nat) (v : Value) (h : w.cell? ⟨g, i, none⟩ = some v) : (Instr.loadAt 24 (.pointer (some ⟨g, i, none⟩))).run Try.prog w = .ok v w := by go_simp

set_option maxHeartbeats 1000000 in
theorem arms1_calls (w : World) (B g d : Nat) (wv : Value) (s : Sl) (q5 q8 i : Nat) (hi : i < 40) (h : IsSlab w B g d wv s) (h5 : Blk w q5 [.pointer (some ⟨g, 0, none⟩)] 24) (h8 : Blk w q8 [.int .i64 (i : Int)] 3) (hs : s.steps < 1000000) (hw : s.way.length < 1000000) :
    Calls Try.prog 16 #[.pointer (some ⟨q5, 0, none⟩), .pointer (some ⟨q8, 0, none⟩)] w (SlabTo w B g d wv (writeL s ((i % 4 : Nat) : Int) [UInt8.ofNat i]).1 (writeL s ((i % 4 : Nat) : Int) [UInt8.ofNat i]).2) := by
  have c5 := h5.get 0 rfl
  have c8 := h8.get 0 rfl
  have hi' : (i : Int) < 40 := by omega
  have H := hid h
  have hb := below_alloc w (.cells #[.int .u8 (i : Int)] 5)
  have hlit := lit_bs w 5 [UInt8.ofNat i] (by simp [maxLen])
  rw [List.map_singleton, u8v_of' i (by omega)] at hlit
  have C := write_any (w.alloc (.cells #[.int .u8 (i : Int)] 5)) B g d wv s ((i % 4 : Nat) : Int) (some ⟨w.heap.size, 0, none⟩) 1 [UInt8.ofNat i] (h.below hb) (by omega) hlit hs hw (.inr (by rintro x ⟨⟩ hm; have := (h.in_ge _ hm).2; simp at this))
  have Cx := hid C
  have Hb := hid hb
  clear h h5 h8 hs hw hlit C hb
  go_enter Try.func16, Try.ntmps16
  go_wp2_with fail
  refine Cx.out.mono ?_
  rintro e w1 ⟨wv', rfl, h1, h2, h3⟩
  have F := hid (And.intro h1 (And.intro h2 h3))
  clear h1 h2 h3
  go_wp2_with fail
  go_ret
  exact ⟨wv', rfl, F.out.1, (Chg.of_below _ Hb.out).trans F.out.2.1, fun k hk => (F.out.2.2 k hk).imp id fun h => by simp at h; omega⟩

def ArRel (wn : World) (g d q5 k n : Nat) (iv : Value) (wr : World) : Prop :=
  ∃ (i : Nat) (s : Sl) (wv : Value), iv = .int .i64 (i : Int) ∧ i ≤ n ∧ i ≤ 40 ∧ ArmSt k i s ∧ IsSlab wr wn.heap.size g d wv s ∧ Blk wr q5 [.pointer (some ⟨g, 0, none⟩)] 24 ∧ q5 ∉ slS g d wv ∧ Below wn.heap.size wn wr

def bV1 (b : Bool) : List Value := [.bool b]

set_option maxRecDepth 20000 in
set_option maxHeartbeats 2000000 in
theorem slabArms_walk (n : Nat) (a1 : Option Addr) (c1 : Nat) (l1 : List Bool) (w : World) (hn : n < 256) (hcs1 : CS w a1 c1 1 (l1.flatMap bV1)) :
    Calls Try.prog 6 #[.int .u8 (n : Int), .slice a1 l1.length c1] w fun e w' => e = .returned (.bool true) ∧ Below w.heap.size w w' := by
  have m1 : l1.length ≤ 9223372036854775807 := by have := hcs1.max; have h2 := hcs1.fit; rw [flat_lengthM bV1 1 l1 (fun _ _ => rfl)] at h2; unfold maxLen at this; omega
  have Hcs := hid hcs1
  obtain ⟨k, hk⟩ : ∃ k, 1 + n % 20 = k := ⟨_, rfl⟩
  have hkk : (1 : Int) + (n : Int) % 20 = (k : Int) := by omega
  have hk20 : 1 ≤ k ∧ (k : Int) ≤ 20 := by omega
  have hn' : (n : Int) ≤ 255 := by omega
  have Hkk := hid hkk
  clear hcs1 hk hkk
  go_enter Try.func6, Try.ntmps6
  go_wp2_with fail
  refine (awake_calls w).mono ?_
  rintro e w1 ⟨rfl, hb⟩
  have B1 := hid hb
  clear hb
  go_wp2_with fail
  refine (newslab_calls w1 4 (by decide)).mono ?_
  rintro e w2 ⟨g, d, rfl, h2, hb2⟩
  have S2 := hid h2
  have Bn2 := hid hb2
  clear h2 hb2
  obtain ⟨wn, hwn⟩ : ∃ wn : World, wn = w1 := ⟨_, rfl⟩
  subst hwn
  go_upto_region 5 with fail
  rw [Hkk.out]
  go_wp2_with fail
  obtain ⟨q5, hq5⟩ : ∃ q, w2.heap.size = q := ⟨_, rfl⟩
  have Q5 := hid (blk_alloc w2 [.pointer (some ⟨g, 0, none⟩)] 24)
  have S3 := hid (S2.out.below (below_alloc w2 (.cells #[.pointer (some ⟨g, 0, none⟩)] 24)))
  have Bn3 := hid (Bn2.out.trans ((below_alloc w2 (.cells #[.pointer (some ⟨g, 0, none⟩)] 24)).mono Bn2.out.size))
  have hgd : g < q5 ∧ d < q5 := by rw [← hq5]; exact ⟨S2.out.own.lt, S2.out.don.lt⟩
  rw [hq5] at Q5 ⊢
  generalize w2.alloc (.cells #[.pointer (some ⟨g, 0, none⟩)] 24) = w3 at S3 Bn3 Q5 ⊢
  clear hq5 S2 Bn2
  refine (arm_calls w3 wn.heap.size g d _ (newL 4) k S3.out (by omega)).mono ?_
  rintro e w4 ⟨he, h4, hc4⟩
  rw [show (armL (newL 4) (k : Int)).2 = 0 from by unfold armL; rw [if_neg (by omega)]] at he
  subst he
  have S4 := hid h4
  have Bn4 := hid (Bn3.out.trans (hc4.below Bn3.out.size (fun q hq => by simp at hq; subst hq; exact S3.out.ge.1)))
  have Q54 := hid (Q5.out.keep hc4 (by simp; omega))
  clear h4 hc4 Q5 S3 Bn3
  go_wp2_with fail
  go_loopw [27] (fun iv wr => ArRel wn g d q5 k l1.length iv wr) (fun iv _ => l1.length - (intOf iv).toNat)
  case atStart => exact ⟨0, _, _, rfl, Nat.zero_le _, by omega, ArmSt.start k hk20.1, S4.out, Q54.out, by simp [slS, Value.ownBlock]; omega, Bn4.out⟩
  case round =>
    obtain ⟨i, s, wv, rfl, hi, hi40, hA, hS, hQ, hq, hB⟩ := hrel
    have As := hid hA
    have S := hid hS
    have Q := hid hQ
    have Nq0 := hid hq
    have B := hid hB
    clear hA hS hQ hq hB
    by_cases hgo : i < l1.length ∧ i < 40
    · obtain ⟨hil, h40⟩ := hgo
      obtain ⟨bo, off, rfl, hc⟩ := cs_row (f := bV1) (fun _ => rfl) Hcs.out hil (by decide)
      have d0 := cell_later (B1.out.trans (B.out.mono B1.out.size)) (hc 0 _ rfl)
      clear hc
      generalize l1[i] = wr1 at d0
      rw [Nat.add_zero, Nat.mul_one] at d0
      have hil' : (i : Int) < (l1.length : Int) := by omega
      have h40' : (i : Int) < 40 := by omega
      have h40'' : ¬ ((40 : Int) ≤ (i : Int)) := by omega
      have c5 := Q.out.get 0 rfl
      have Q8 := hid (blk_alloc wr [.int .i64 (i : Int)] 3)
      have Sq := hid (S.out.below (below_alloc wr (.cells #[.int .i64 (i : Int)] 3)))
      have Q5 := hid (Q.out.below (below_alloc wr (.cells #[.int .i64 (i : Int)] 3)))
      have Bq := hid (B.out.trans ((below_alloc wr (.cells #[.int .i64 (i : Int)] 3)).mono B.out.size))
      have hq5 : q5 < wr.heap.size := Q.out.lt
      have Nq : Kept (q5 ∉ slS g d wv ∧ wr.heap.size ∉ slS g d wv) := ⟨Nq0.out, fun hm => by have := (S.out.in_ge _ hm).2; omega⟩
      cases wr1
      · obtain ⟨s', hs', r, hr, hA2, hr2⟩ : ∃ s' , s' = (flushL s).1 ∧ ∃ r, r = (flushL s).2 ∧ ArmSt k (i + 1) s' ∧ r = if i + 1 < k then 0 else 13 := ⟨_, rfl, _, rfl, As.out.flush.1, As.out.flush.2⟩
        have Hs2 := hid (And.intro hs' hr)
        have As2 := hid hA2
        obtain ⟨b1, hb1⟩ : ∃ b1, decide (i + 1 < k) = b1 := ⟨_, rfl⟩
        have Hb1 := hid (show decide ((i : Int) + 1 < (k : Int)) = b1 from by rw [← hb1]; exact decide_eq_decide.2 (by omega))
        have Hr := hid (show ((r : Int) == 0) = b1 from by
          rw [← hb1, hr2]
          by_cases h : i + 1 < k
          · rw [if_pos h, decide_eq_true h]; rfl
          · rw [if_neg h, decide_eq_false h]; rfl)
        have Hoff := hid (show (!s'.off) = b1 from by rw [hA2.off, ← hb1, ← decide_not]; exact decide_eq_decide.2 (by omega))
        obtain ⟨mi, hmi⟩ : ∃ mi, min (i + 1) k = mi := ⟨_, rfl⟩
        have Hst := hid (show s'.steps = mi from by rw [hA2.steps, hmi])
        have Hmi := hid (show (if (k : Int) < (i : Int) + 1 then (k : Int) else (i : Int) + 1) = (mi : Int) from by rw [← hmi]; split <;> omega)
        clear hb1 hr2 hA2 hmi hs' hr
        go_upto_region 14 with fail
        obtain ⟨q8, hq8⟩ : ∃ q, wr.heap.size = q := ⟨_, rfl⟩
        rw [hq8] at Q8 Nq ⊢
        generalize wr.alloc (.cells #[.int .i64 (i : Int)] 3) = wq at Sq Q5 Q8 Bq ⊢
        clear d0 c5 hq5 hq8
        refine wp_region_chgB 16 1 (slS g d wv) [2, 7, 8, 16, 17] (fun idx v w' => match idx with
          | 0 => v = .func (.func 11) #[.pointer (some ⟨g, 0, none⟩)] #[]
          | 1 => v = .int .i64 (r : Int) ∧ ArmAt wn g d q5 q8 i s' w'
          | 2 => v = .bool b1 ∧ ArmAt wn g d q5 q8 i s' w'
          | 3 | 11 | 20 => v = .int .i64 (i : Int)
          | 4 | 12 | 21 => v = .int .i64 ((i : Int) + 1)
          | 5 | 13 | 22 => v = .int .i64 (k : Int)
          | 6 | 10 | 14 => v = .bool b1
          | 7 | 8 | 16 | 17 => v = .bool false ∧ ArmAt wn g d q5 q8 i s' w'
          | 9 | 18 => v = .pointer (some ⟨g, 0, none⟩)
          | 15 | 24 => v = .bool false
          | 19 | 23 => v = .int .i64 (mi : Int)
          | _ => True) (by kernel_rfl) (by kernel_rfl) (by kernel_rfl) (by kernel_rfl) ?_ ?_ ?_ ?_
        · intro j v wx wy hR hb
          match j, hR with
          | 0, hR | 3, hR | 11, hR | 20, hR | 4, hR | 12, hR | 21, hR | 5, hR | 13, hR | 22, hR | 6, hR | 10, hR | 14, hR | 9, hR | 18, hR | 15, hR | 24, hR | 19, hR | 23, hR => exact hR
          | 1, hR => exact ⟨hR.1, hR.2.below hb⟩
          | 2, hR => exact ⟨hR.1, hR.2.below hb⟩
          | 7, hR => exact ⟨hR.1, hR.2.below hb⟩
          | 8, hR => exact ⟨hR.1, hR.2.below hb⟩
          | 16, hR => exact ⟨hR.1, hR.2.below hb⟩
          | 17, hR => exact ⟨hR.1, hR.2.below hb⟩
          | _ + 25, _ => trivial
        · intro j v wx wy hne hcon hR hb
          match j, hR with
          | 0, hR | 3, hR | 11, hR | 20, hR | 4, hR | 12, hR | 21, hR | 5, hR | 13, hR | 22, hR | 6, hR | 10, hR | 14, hR | 9, hR | 18, hR | 15, hR | 24, hR | 19, hR | 23, hR => exact hR
          | 1, _ => exact (hne rfl).elim
          | 2, hR => exact absurd hcon (by decide)
          | 7, hR => exact absurd hcon (by decide)
          | 8, hR => exact absurd hcon (by decide)
          | 16, hR => exact absurd hcon (by decide)
          | 17, hR => exact absurd hcon (by decide)
          | _ + 25, _ => trivial
        · refine ⟨?_, ?_, ?_, ?_, ?_, ?_, ?_, ?_, ?_, ?_, ?_, ?_, ?_, ?_, ?_, ?_, ?_, ?_, ?_, ?_, ?_, ?_, ?_, ?_, ?_, trivial⟩
          all_goals intro ρ wx hE hc hg hf
          · intro h0; exact opOk_move _ rfl ⟨Below.refl _ _, h0⟩
          · intro (h0 : ρ (.tmp 38) = .func (.func 11) #[.pointer (some ⟨g, 0, none⟩)] #[])
            have hE : Below wq.drew.heap.size wq.drew wx := hE
            have S3 := (Sq.out.below (below_drew _)).below hE
            refine opOk_call (f := 11) (args := #[.pointer (some ⟨g, 0, none⟩)]) (by go_simp) ?_
            refine (flush_calls wx _ g d wv s S3 (by have := As.out.steps; omega)).mono ?_
            intro e w7 ht
            rw [← Hs2.out.1, ← Hs2.out.2] at ht
            exact armAt_of S3 ((Q5.out.below (below_drew _)).below hE) ((Q8.out.below (below_drew _)).below hE) Nq.out ((Bq.out.trans ((below_drew wq).mono Bq.out.size)).trans (hE.mono Bq.out.size)) ht
          · intro (h0 : ρ (.tmp 39) = .int .i64 (r : Int) ∧ _)
            obtain ⟨h0, hS⟩ := h0
            exact opOk_run (v := .bool b1) (w' := wx) (by have := Hr.out; go_simp) ⟨Below.refl _ _, rfl, hS⟩
          · intro (h0 : ρ (.tmp 8) = .pointer (some ⟨q8, 0, none⟩))
            have hE : Chg (slS g d wv) wq.drew wx := hE
            have c := ((Q8.out.below (below_drew _)).keep hE Nq.out.2).get 0 rfl
            exact opOk_load _ _ rfl _ _ h0 (run_int_at _ _ _ _ c) ⟨Below.refl _ _, rfl⟩
          · intro (h0 : ρ (.tmp 41) = .int .i64 (i : Int))
            exact opOk_run (v := .int .i64 ((i : Int) + 1)) (w' := wx) (by go_simp; rw [IntKind.wrap_i64]; omega) ⟨Below.refl _ _, rfl⟩
          · intro h0; exact opOk_move _ rfl ⟨Below.refl _ _, h0⟩
          · intro (h0 : ρ (.tmp 42) = .int .i64 ((i : Int) + 1)) (h1 : ρ (.tmp 43) = .int .i64 (k : Int))
            exact opOk_run (v := .bool b1) (w' := wx) (by have := Hb1.out; go_simp) ⟨Below.refl _ _, rfl⟩
          · intro ⟨h0, hS⟩ (h1 : ρ (.tmp 44) = .bool b1)
            exact opOk_run (v := .bool false) (w' := wx) (by go_simp) ⟨Below.refl _ _, rfl, hS⟩
          · intro ⟨h0, hS⟩
            exact opOk_move _ rfl ⟨Below.refl _ _, h0, hS⟩
          · intro u hu
            refine ⟨fun _ => ?_, fun hh => absurd hu.1 hh⟩
            have hS := hu.2
            intro (h0 : ρ (.tmp 5) = .pointer (some ⟨q5, 0, none⟩))
            have hE : Chg (slS g d wv) wq.drew wx := hE
            have c := ((Q5.out.below (below_drew _)).keep hE Nq.out.1).get 0 rfl
            exact opOk_load _ _ rfl _ _ h0 (run_slabp_at _ _ _ _ c) ⟨Below.refl _ _, rfl⟩
          · intro u hu
            refine ⟨fun _ => ?_, fun hh => absurd hu.1 hh⟩
            have hS := hu.2
            intro (h0 : ρ (.tmp 47) = .pointer (some ⟨g, 0, none⟩))
            obtain ⟨wv', hS1, _⟩ := hS
            refine opOk_call (f := 17) (args := #[.pointer (some ⟨g, 0, none⟩)]) (by go_simp) ?_
            refine (on_calls wx _ g d wv' _ hS1).mono ?_
            rintro e w7 ⟨rfl, rfl⟩
            exact ⟨_, rfl, Below.refl _ _, (show Value.bool _ = Value.bool b1 from by rw [Hoff.out])⟩
          · intro u hu
            refine ⟨fun _ => ?_, fun hh => absurd hu.1 hh⟩
            have hS := hu.2
            intro (h0 : ρ (.tmp 8) = .pointer (some ⟨q8, 0, none⟩))
            have hE : Chg (slS g d wv) wq.drew wx := hE
            have c := ((Q8.out.below (below_drew _)).keep hE Nq.out.2).get 0 rfl
            exact opOk_load _ _ rfl _ _ h0 (run_int_at _ _ _ _ c) ⟨Below.refl _ _, rfl⟩
          · intro u hu
            refine ⟨fun _ => ?_, fun hh => absurd hu.1 hh⟩
            have hS := hu.2
            intro (h0 : ρ (.tmp 49) = .int .i64 (i : Int))
            exact opOk_run (v := .int .i64 ((i : Int) + 1)) (w' := wx) (by go_simp; rw [IntKind.wrap_i64]; omega) ⟨Below.refl _ _, rfl⟩
          · intro u hu
            refine ⟨fun _ => ?_, fun hh => absurd hu.1 hh⟩
            have hS := hu.2
            intro h0; exact opOk_move _ rfl ⟨Below.refl _ _, h0⟩
          · intro u hu
            refine ⟨fun _ => ?_, fun hh => absurd hu.1 hh⟩
            have hS := hu.2
            intro (h0 : ρ (.tmp 50) = .int .i64 ((i : Int) + 1)) (h1 : ρ (.tmp 51) = .int .i64 (k : Int))
            exact opOk_run (v := .bool b1) (w' := wx) (by have := Hb1.out; go_simp) ⟨Below.refl _ _, rfl⟩
          · intro u hu
            refine ⟨fun _ => ?_, fun hh => absurd hu.1 hh⟩
            have hS := hu.2
            intro (h0 : ρ (.tmp 48) = .bool b1) (h1 : ρ (.tmp 52) = .bool b1)
            exact opOk_run (v := .bool false) (w' := wx) (by go_simp) ⟨Below.refl _ _, rfl⟩
          · intro ⟨h0, hS⟩ (h1 : ρ (.tmp 53) = .bool false)
            exact opOk_run (v := .bool false) (w' := wx) (by go_simp) ⟨Below.refl _ _, rfl, hS⟩
          · intro ⟨h0, hS⟩
            exact opOk_move _ rfl ⟨Below.refl _ _, h0, hS⟩
          · intro u hu
            refine ⟨fun _ => ?_, fun hh => absurd hu.1 hh⟩
            have hS := hu.2
            intro (h0 : ρ (.tmp 5) = .pointer (some ⟨q5, 0, none⟩))
            have hE : Chg (slS g d wv) wq.drew wx := hE
            have c := ((Q5.out.below (below_drew _)).keep hE Nq.out.1).get 0 rfl
            exact opOk_load _ _ rfl _ _ h0 (run_slabp_at _ _ _ _ c) ⟨Below.refl _ _, rfl⟩
          · intro u hu
            refine ⟨fun _ => ?_, fun hh => absurd hu.1 hh⟩
            have hS := hu.2
            intro (h0 : ρ (.tmp 56) = .pointer (some ⟨g, 0, none⟩))
            obtain ⟨wv', hS1, _⟩ := hS
            refine opOk_call (f := 18) (args := #[.pointer (some ⟨g, 0, none⟩)]) (by go_simp) ?_
            refine (steps_calls wx _ g d wv' _ hS1).mono ?_
            rintro e w7 ⟨rfl, rfl⟩
            exact ⟨_, rfl, Below.refl _ _, (show Value.int .i64 _ = Value.int .i64 (mi : Int) from by rw [Hst.out])⟩
          · intro u hu
            refine ⟨fun _ => ?_, fun hh => absurd hu.1 hh⟩
            have hS := hu.2
            intro (h0 : ρ (.tmp 8) = .pointer (some ⟨q8, 0, none⟩))
            have hE : Chg (slS g d wv) wq.drew wx := hE
            have c := ((Q8.out.below (below_drew _)).keep hE Nq.out.2).get 0 rfl
            exact opOk_load _ _ rfl _ _ h0 (run_int_at _ _ _ _ c) ⟨Below.refl _ _, rfl⟩
          · intro u hu
            refine ⟨fun _ => ?_, fun hh => absurd hu.1 hh⟩
            have hS := hu.2
            intro (h0 : ρ (.tmp 58) = .int .i64 (i : Int))
            exact opOk_run (v := .int .i64 ((i : Int) + 1)) (w' := wx) (by go_simp; rw [IntKind.wrap_i64]; omega) ⟨Below.refl _ _, rfl⟩
          · intro u hu
            refine ⟨fun _ => ?_, fun hh => absurd hu.1 hh⟩
            have hS := hu.2
            intro h0; exact opOk_move _ rfl ⟨Below.refl _ _, h0⟩
          · intro u hu
            refine ⟨fun _ => ?_, fun hh => absurd hu.1 hh⟩
            have hS := hu.2
            intro (h0 : ρ (.tmp 59) = .int .i64 ((i : Int) + 1)) (h1 : ρ (.tmp 60) = .int .i64 (k : Int))
            exact opOk_run (v := .int .i64 (mi : Int)) (w' := wx) (by have := Hmi.out; go_simp) ⟨Below.refl _ _, rfl⟩
          · intro u hu
            refine ⟨fun _ => ?_, fun hh => absurd hu.1 hh⟩
            have hS := hu.2
            intro (h0 : ρ (.tmp 57) = .int .i64 (mi : Int)) (h1 : ρ (.tmp 61) = .int .i64 (mi : Int))
            exact opOk_run (v := .bool false) (w' := wx) (by go_simp) ⟨Below.refl _ _, rfl⟩
        · intro wz hE
          rintro _ rfl _ ⟨rfl, _⟩ _ ⟨rfl, _⟩ _ rfl _ rfl _ rfl _ rfl _ ⟨rfl, _⟩ _ ⟨rfl, _⟩ _ rfl _ rfl _ rfl _ rfl _ rfl _ rfl _ rfl _ ⟨rfl, _⟩ _ ⟨rfl, hS⟩ _ rfl _ rfl _ rfl _ rfl _ rfl _ rfl _ rfl
          simp only [PutLast, Act.put, List.setIfInBounds_toArray, List.set_cons_succ, List.set_cons_zero]
          refine opOk_pick (.tmp 55) (.const (.bool true)) (.tmp 62) rfl false (.bool false) rfl rfl ?_
          clear hE
          go_wp2_with fail
          obtain ⟨wv2, hS2, hQ2, _, hq2, hB2⟩ := hS
          have RR : ArRel wn g d q5 k l1.length (.int .i64 ((i : Int) + 1)) wz := ⟨i + 1, s', wv2, by go_num, by omega, by omega, As2.out, hS2, hQ2, hq2, hB2⟩
          refine ⟨?_, by simp [intOf]; omega⟩
          first | exact RR | ((repeat apply Exists.intro); refine ⟨RR, ?_⟩; and_intros <;> rfl)
      · obtain ⟨s', hs', r, hr, hA2, hr2⟩ : ∃ s' , s' = (writeL s ((i % 4 : Nat) : Int) [UInt8.ofNat i]).1 ∧ ∃ r, r = (writeL s ((i % 4 : Nat) : Int) [UInt8.ofNat i]).2 ∧ ArmSt k (i + 1) s' ∧ r = if i + 1 < k then 0 else 13 := ⟨_, rfl, _, rfl, (As.out.write (i % 4) (by omega) _ (by simp)).1, (As.out.write (i % 4) (by omega) _ (by simp)).2⟩
        have Hs2 := hid (And.intro hs' hr)
        have As2 := hid hA2
        obtain ⟨b1, hb1⟩ : ∃ b1, decide (i + 1 < k) = b1 := ⟨_, rfl⟩
        have Hb1 := hid (show decide ((i : Int) + 1 < (k : Int)) = b1 from by rw [← hb1]; exact decide_eq_decide.2 (by omega))
        have Hr := hid (show ((r : Int) == 0) = b1 from by
          rw [← hb1, hr2]
          by_cases h : i + 1 < k
          · rw [if_pos h, decide_eq_true h]; rfl
          · rw [if_neg h, decide_eq_false h]; rfl)
        have Hoff := hid (show (!s'.off) = b1 from by rw [hA2.off, ← hb1, ← decide_not]; exact decide_eq_decide.2 (by omega))
        obtain ⟨mi, hmi⟩ : ∃ mi, min (i + 1) k = mi := ⟨_, rfl⟩
        have Hst := hid (show s'.steps = mi from by rw [hA2.steps, hmi])
        have Hmi := hid (show (if (k : Int) < (i : Int) + 1 then (k : Int) else (i : Int) + 1) = (mi : Int) from by rw [← hmi]; split <;> omega)
        clear hb1 hr2 hA2 hmi hs' hr
        go_upto_region 14 with fail
        obtain ⟨q8, hq8⟩ : ∃ q, wr.heap.size = q := ⟨_, rfl⟩
        rw [hq8] at Q8 Nq ⊢
        generalize wr.alloc (.cells #[.int .i64 (i : Int)] 3) = wq at Sq Q5 Q8 Bq ⊢
        clear d0 c5 hq5 hq8
        refine wp_region_chgB 16 1 (slS g d wv) [2, 7, 8, 16, 17] (fun idx v w' => match idx with
          | 0 => v = .func (.func 16) #[] #[.pointer (some ⟨q5, 0, none⟩), .pointer (some ⟨q8, 0, none⟩)]
          | 1 => v = .int .i64 (r : Int) ∧ ArmAt wn g d q5 q8 i s' w'
          | 2 => v = .bool b1 ∧ ArmAt wn g d q5 q8 i s' w'
          | 3 | 11 | 20 => v = .int .i64 (i : Int)
          | 4 | 12 | 21 => v = .int .i64 ((i : Int) + 1)
          | 5 | 13 | 22 => v = .int .i64 (k : Int)
          | 6 | 10 | 14 => v = .bool b1
          | 7 | 8 | 16 | 17 => v = .bool false ∧ ArmAt wn g d q5 q8 i s' w'
          | 9 | 18 => v = .pointer (some ⟨g, 0, none⟩)
          | 15 | 24 => v = .bool false
          | 19 | 23 => v = .int .i64 (mi : Int)
          | _ => True) (by kernel_rfl) (by kernel_rfl) (by kernel_rfl) (by kernel_rfl) ?_ ?_ ?_ ?_
        · intro j v wx wy hR hb
          match j, hR with
          | 0, hR | 3, hR | 11, hR | 20, hR | 4, hR | 12, hR | 21, hR | 5, hR | 13, hR | 22, hR | 6, hR | 10, hR | 14, hR | 9, hR | 18, hR | 15, hR | 24, hR | 19, hR | 23, hR => exact hR
          | 1, hR => exact ⟨hR.1, hR.2.below hb⟩
          | 2, hR => exact ⟨hR.1, hR.2.below hb⟩
          | 7, hR => exact ⟨hR.1, hR.2.below hb⟩
          | 8, hR => exact ⟨hR.1, hR.2.below hb⟩
          | 16, hR => exact ⟨hR.1, hR.2.below hb⟩
          | 17, hR => exact ⟨hR.1, hR.2.below hb⟩
          | _ + 25, _ => trivial
        · intro j v wx wy hne hcon hR hb
          match j, hR with
          | 0, hR | 3, hR | 11, hR | 20, hR | 4, hR | 12, hR | 21, hR | 5, hR | 13, hR | 22, hR | 6, hR | 10, hR | 14, hR | 9, hR | 18, hR | 15, hR | 24, hR | 19, hR | 23, hR => exact hR
          | 1, _ => exact (hne rfl).elim
          | 2, hR => exact absurd hcon (by decide)
          | 7, hR => exact absurd hcon (by decide)
          | 8, hR => exact absurd hcon (by decide)
          | 16, hR => exact absurd hcon (by decide)
          | 17, hR => exact absurd hcon (by decide)
          | _ + 25, _ => trivial
        · refine ⟨?_, ?_, ?_, ?_, ?_, ?_, ?_, ?_, ?_, ?_, ?_, ?_, ?_, ?_, ?_, ?_, ?_, ?_, ?_, ?_, ?_, ?_, ?_, ?_, ?_, trivial⟩
          all_goals intro ρ wx hE hc hg hf
          · intro h0; exact opOk_move _ rfl ⟨Below.refl _ _, h0⟩
          · intro (h0 : ρ (.tmp 38) = .func (.func 16) #[] #[.pointer (some ⟨q5, 0, none⟩), .pointer (some ⟨q8, 0, none⟩)])
            have hE : Below wq.drew.heap.size wq.drew wx := hE
            have S3 := (Sq.out.below (below_drew _)).below hE
            have q5x := (Q5.out.below (below_drew _)).below hE
            have q8x := (Q8.out.below (below_drew _)).below hE
            refine opOk_call (f := 16) (args := #[.pointer (some ⟨q5, 0, none⟩), .pointer (some ⟨q8, 0, none⟩)]) (by go_simp) ?_
            refine (arms1_calls wx _ g d wv s q5 q8 i (by omega) S3 q5x q8x (by have := As.out.steps; omega) (by have := As.out.ways; omega)).mono ?_
            intro e w7 ht
            rw [← Hs2.out.1, ← Hs2.out.2] at ht
            exact armAt_of S3 q5x q8x Nq.out ((Bq.out.trans ((below_drew wq).mono Bq.out.size)).trans (hE.mono Bq.out.size)) ht
          · intro (h0 : ρ (.tmp 39) = .int .i64 (r : Int) ∧ _)
            obtain ⟨h0, hS⟩ := h0
            exact opOk_run (v := .bool b1) (w' := wx) (by have := Hr.out; go_simp) ⟨Below.refl _ _, rfl, hS⟩
          · intro (h0 : ρ (.tmp 8) = .pointer (some ⟨q8, 0, none⟩))
            have hE : Chg (slS g d wv) wq.drew wx := hE
            have c := ((Q8.out.below (below_drew _)).keep hE Nq.out.2).get 0 rfl
            exact opOk_load _ _ rfl _ _ h0 (run_int_at _ _ _ _ c) ⟨Below.refl _ _, rfl⟩
          · intro (h0 : ρ (.tmp 41) = .int .i64 (i : Int))
            exact opOk_run (v := .int .i64 ((i : Int) + 1)) (w' := wx) (by go_simp; rw [IntKind.wrap_i64]; omega) ⟨Below.refl _ _, rfl⟩
          · intro h0; exact opOk_move _ rfl ⟨Below.refl _ _, h0⟩
          · intro (h0 : ρ (.tmp 42) = .int .i64 ((i : Int) + 1)) (h1 : ρ (.tmp 43) = .int .i64 (k : Int))
            exact opOk_run (v := .bool b1) (w' := wx) (by have := Hb1.out; go_simp) ⟨Below.refl _ _, rfl⟩
          · intro ⟨h0, hS⟩ (h1 : ρ (.tmp 44) = .bool b1)
            exact opOk_run (v := .bool false) (w' := wx) (by go_simp) ⟨Below.refl _ _, rfl, hS⟩
          · intro ⟨h0, hS⟩
            exact opOk_move _ rfl ⟨Below.refl _ _, h0, hS⟩
          · intro u hu
            refine ⟨fun _ => ?_, fun hh => absurd hu.1 hh⟩
            have hS := hu.2
            intro (h0 : ρ (.tmp 5) = .pointer (some ⟨q5, 0, none⟩))
            have hE : Chg (slS g d wv) wq.drew wx := hE
            have c := ((Q5.out.below (below_drew _)).keep hE Nq.out.1).get 0 rfl
            exact opOk_load _ _ rfl _ _ h0 (run_slabp_at _ _ _ _ c) ⟨Below.refl _ _, rfl⟩
          · intro u hu
            refine ⟨fun _ => ?_, fun hh => absurd hu.1 hh⟩
            have hS := hu.2
            intro (h0 : ρ (.tmp 47) = .pointer (some ⟨g, 0, none⟩))
            obtain ⟨wv', hS1, _⟩ := hS
            refine opOk_call (f := 17) (args := #[.pointer (some ⟨g, 0, none⟩)]) (by go_simp) ?_
            refine (on_calls wx _ g d wv' _ hS1).mono ?_
            rintro e w7 ⟨rfl, rfl⟩
            exact ⟨_, rfl, Below.refl _ _, (show Value.bool _ = Value.bool b1 from by rw [Hoff.out])⟩
          · intro u hu
            refine ⟨fun _ => ?_, fun hh => absurd hu.1 hh⟩
            have hS := hu.2
            intro (h0 : ρ (.tmp 8) = .pointer (some ⟨q8, 0, none⟩))
            have hE : Chg (slS g d wv) wq.drew wx := hE
            have c := ((Q8.out.below (below_drew _)).keep hE Nq.out.2).get 0 rfl
            exact opOk_load _ _ rfl _ _ h0 (run_int_at _ _ _ _ c) ⟨Below.refl _ _, rfl⟩
          · intro u hu
            refine ⟨fun _ => ?_, fun hh => absurd hu.1 hh⟩
            have hS := hu.2
            intro (h0 : ρ (.tmp 49) = .int .i64 (i : Int))
            exact opOk_run (v := .int .i64 ((i : Int) + 1)) (w' := wx) (by go_simp; rw [IntKind.wrap_i64]; omega) ⟨Below.refl _ _, rfl⟩
          · intro u hu
            refine ⟨fun _ => ?_, fun hh => absurd hu.1 hh⟩
            have hS := hu.2
            intro h0; exact opOk_move _ rfl ⟨Below.refl _ _, h0⟩
          · intro u hu
            refine ⟨fun _ => ?_, fun hh => absurd hu.1 hh⟩
            have hS := hu.2
            intro (h0 : ρ (.tmp 50) = .int .i64 ((i : Int) + 1)) (h1 : ρ (.tmp 51) = .int .i64 (k : Int))
            exact opOk_run (v := .bool b1) (w' := wx) (by have := Hb1.out; go_simp) ⟨Below.refl _ _, rfl⟩
          · intro u hu
            refine ⟨fun _ => ?_, fun hh => absurd hu.1 hh⟩
            have hS := hu.2
            intro (h0 : ρ (.tmp 48) = .bool b1) (h1 : ρ (.tmp 52) = .bool b1)
            exact opOk_run (v := .bool false) (w' := wx) (by go_simp) ⟨Below.refl _ _, rfl⟩
          · intro ⟨h0, hS⟩ (h1 : ρ (.tmp 53) = .bool false)
            exact opOk_run (v := .bool false) (w' := wx) (by go_simp) ⟨Below.refl _ _, rfl, hS⟩
          · intro ⟨h0, hS⟩
            exact opOk_move _ rfl ⟨Below.refl _ _, h0, hS⟩
          · intro u hu
            refine ⟨fun _ => ?_, fun hh => absurd hu.1 hh⟩
            have hS := hu.2
            intro (h0 : ρ (.tmp 5) = .pointer (some ⟨q5, 0, none⟩))
            have hE : Chg (slS g d wv) wq.drew wx := hE
            have c := ((Q5.out.below (below_drew _)).keep hE Nq.out.1).get 0 rfl
            exact opOk_load _ _ rfl _ _ h0 (run_slabp_at _ _ _ _ c) ⟨Below.refl _ _, rfl⟩
          · intro u hu
            refine ⟨fun _ => ?_, fun hh => absurd hu.1 hh⟩
            have hS := hu.2
            intro (h0 : ρ (.tmp 56) = .pointer (some ⟨g, 0, none⟩))
            obtain ⟨wv', hS1, _⟩ := hS
            refine opOk_call (f := 18) (args := #[.pointer (some ⟨g, 0, none⟩)]) (by go_simp) ?_
            refine (steps_calls wx _ g d wv' _ hS1).mono ?_
            rintro e w7 ⟨rfl, rfl⟩
            exact ⟨_, rfl, Below.refl _ _, (show Value.int .i64 _ = Value.int .i64 (mi : Int) from by rw [Hst.out])⟩
          · intro u hu
            refine ⟨fun _ => ?_, fun hh => absurd hu.1 hh⟩
            have hS := hu.2
            intro (h0 : ρ (.tmp 8) = .pointer (some ⟨q8, 0, none⟩))
            have hE : Chg (slS g d wv) wq.drew wx := hE
            have c := ((Q8.out.below (below_drew _)).keep hE Nq.out.2).get 0 rfl
            exact opOk_load _ _ rfl _ _ h0 (run_int_at _ _ _ _ c) ⟨Below.refl _ _, rfl⟩
          · intro u hu
            refine ⟨fun _ => ?_, fun hh => absurd hu.1 hh⟩
            have hS := hu.2
            intro (h0 : ρ (.tmp 58) = .int .i64 (i : Int))
            exact opOk_run (v := .int .i64 ((i : Int) + 1)) (w' := wx) (by go_simp; rw [IntKind.wrap_i64]; omega) ⟨Below.refl _ _, rfl⟩
          · intro u hu
            refine ⟨fun _ => ?_, fun hh => absurd hu.1 hh⟩
            have hS := hu.2
            intro h0; exact opOk_move _ rfl ⟨Below.refl _ _, h0⟩
          · intro u hu
            refine ⟨fun _ => ?_, fun hh => absurd hu.1 hh⟩
            have hS := hu.2
            intro (h0 : ρ (.tmp 59) = .int .i64 ((i : Int) + 1)) (h1 : ρ (.tmp 60) = .int .i64 (k : Int))
            exact opOk_run (v := .int .i64 (mi : Int)) (w' := wx) (by have := Hmi.out; go_simp) ⟨Below.refl _ _, rfl⟩
          · intro u hu
            refine ⟨fun _ => ?_, fun hh => absurd hu.1 hh⟩
            have hS := hu.2
            intro (h0 : ρ (.tmp 57) = .int .i64 (mi : Int)) (h1 : ρ (.tmp 61) = .int .i64 (mi : Int))
            exact opOk_run (v := .bool false) (w' := wx) (by go_simp) ⟨Below.refl _ _, rfl⟩
        · intro wz hE
          rintro _ rfl _ ⟨rfl, _⟩ _ ⟨rfl, _⟩ _ rfl _ rfl _ rfl _ rfl _ ⟨rfl, _⟩ _ ⟨rfl, _⟩ _ rfl _ rfl _ rfl _ rfl _ rfl _ rfl _ rfl _ ⟨rfl, _⟩ _ ⟨rfl, hS⟩ _ rfl _ rfl _ rfl _ rfl _ rfl _ rfl _ rfl
          simp only [PutLast, Act.put, List.setIfInBounds_toArray, List.set_cons_succ, List.set_cons_zero]
          refine opOk_pick (.tmp 55) (.const (.bool true)) (.tmp 62) rfl false (.bool false) rfl rfl ?_
          clear hE
          go_wp2_with fail
          obtain ⟨wv2, hS2, hQ2, _, hq2, hB2⟩ := hS
          have RR : ArRel wn g d q5 k l1.length (.int .i64 ((i : Int) + 1)) wz := ⟨i + 1, s', wv2, by go_num, by omega, by omega, As2.out, hS2, hQ2, hq2, hB2⟩
          refine ⟨?_, by simp [intOf]; omega⟩
          first | exact RR | ((repeat apply Exists.intro); refine ⟨RR, ?_⟩; and_intros <;> rfl)
    · by_cases hil : i < l1.length
      · obtain ⟨bo, off, rfl, hc⟩ := cs_row (f := bV1) (fun _ => rfl) Hcs.out hil (by decide)
        have d0 := cell_later (B1.out.trans (B.out.mono B1.out.size)) (hc 0 _ rfl)
        clear hc
        generalize l1[i] = wr1 at d0
        rw [Nat.add_zero, Nat.mul_one] at d0
        have hil' : (i : Int) < (l1.length : Int) := by omega
        have h40' : (40 : Int) ≤ (i : Int) := by omega
        have Bq := hid (B.out.trans ((below_alloc wr (.cells #[.int .i64 (i : Int)] 3)).mono B.out.size))
        go_wp2_with fail
        go_ret
        exact ⟨rfl, B1.out.trans (Bq.out.mono B1.out.size)⟩
      · have hil' : ¬ ((i : Int) < (l1.length : Int)) := by omega
        go_wp2_with fail
        go_ret
        exact ⟨rfl, B1.out.trans (B.out.mono B1.out.size)⟩

theorem bools_open {w : World} {v : Value} (h : RV Try.prog w 44 v) : ∃ (a : Option Addr) (cap : Nat) (l : List Bool), v = .slice a l.length cap ∧ CS w a cap 1 (l.flatMap bV1) := by
  obtain ⟨a, cap, E, rfl, hE, hl, hc⟩ := h.slice Try.underlying44 1 (by kernel_rfl) (by decide)
  have key : ∀ E : List (List Value), (∀ x ∈ E, x.length = 1 ∧ RC Try.prog w 4 x) → ∃ l : List Bool, l.length = E.length ∧ E.flatten = l.flatMap bV1 := by
    intro E
    induction E with
    | nil => intro _; exact ⟨[], rfl, rfl⟩
    | cons x E ih =>
      intro h
      obtain ⟨l, h1, h2⟩ := ih fun y hy => h y (List.mem_cons_of_mem _ hy)
      obtain ⟨b, hb⟩ := (h x (List.mem_cons_self ..)).2.bool Try.underlying4
      exact ⟨b :: l, by simp [h1], by rw [List.flatten_cons, h2, hb, List.flatMap_cons]; rfl⟩
  obtain ⟨l, h1, h2⟩ := key E hE
  exact ⟨a, cap, l, by rw [h1], by rw [← h2]; exact hc⟩

theorem slabArms_row (n : Int) (v1 : Value) (w : World) (hn : (Lit.int .u8 n).wf = true) (h1 : RV Try.prog w 44 v1) :
    Calls Try.prog 6 #[.int .u8 n, v1] w fun e w' => e = .returned (.bool true) ∧ Below w.heap.size w w' := by
  have h8 := bounds_u8 hn
  obtain ⟨a, cap, l, rfl, hcs⟩ := bools_open h1
  obtain ⟨k, rfl⟩ : ∃ k : Nat, n = k := ⟨n.toNat, by omega⟩
  exact slabArms_walk k a cap l w (by omega) hcs
end Go.Proofs.Ytoegnlabneafkaa
