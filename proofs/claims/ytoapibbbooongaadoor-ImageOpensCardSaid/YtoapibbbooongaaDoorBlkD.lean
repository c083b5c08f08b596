/- The walks of layer 6: a root is stored. -/
import Derived.Test.YtoapibbbooongaaDoorBlkC
namespace Go.Proofs.YtoapibbbooongaaDoor
open Go.RowKit Go.Quad _root_.Quad _root_.Quad.Slab

theorem slabTo_trans {w w1 w2 : World} {B g d : Nat} {wv wv1 : Value} {s1 s2 : Sl} {r : Nat} {e : Ending} (h1 : IsSlab w1 B g d wv1 s1) (hc : Chg (slS g d wv) w w1) (ho : ∀ k, wv1.ownBlock = some k → k ∈ slS g d wv ∨ w.heap.size ≤ k)
    (ht : SlabTo w1 B g d wv1 s2 r e w2) : SlabTo w B g d wv s2 r e w2 := by
  obtain ⟨wv2, q1, q2, q3, q4⟩ := ht
  have hS : ∀ k ∈ slS g d wv1, k ∈ slS g d wv ∨ w.heap.size ≤ k := by
    intro k hk
    simp only [slS, List.mem_cons] at hk
    rcases hk with rfl | rfl | hk
    · exact .inl (by simp [slS])
    · exact .inl (by simp [slS])
    · exact ho k (by simpa using hk)
  refine ⟨wv2, q1, q2, ⟨q3.os.trans hc.os, q3.tape.trans hc.tape, q3.output.trans hc.output, Nat.le_trans hc.size q3.size, fun k hk hn => (q3.block k (Nat.lt_of_lt_of_le hk hc.size) (fun hm => ?_)).trans (hc.block k hk hn)⟩, fun k hk => ?_⟩
  · rcases hS k hm with h | h
    · exact hn h
    · omega
  · rcases q4 k hk with h | h
    · exact hS k h
    · exact .inr (Nat.le_trans hc.size h)
theorem flushL_few (s : Sl) : (flushL s).1.steps ≤ s.steps + 1 ∧ (flushL s).1.way.length ≤ s.way.length := by
  unfold flushL
  split
  · exact ⟨Nat.le_succ _, Nat.le_refl _⟩
  · split
    · exact ⟨by show s.steps + 1 ≤ _; omega, Nat.le_refl _⟩
    · exact ⟨by show s.steps + 1 ≤ _; omega, by simp⟩
theorem writeL_few (s : Sl) (i : Int) (t : Bytes) : (writeL s i t).1.steps ≤ s.steps + 1 ∧ (writeL s i t).1.way.length ≤ s.way.length + 1 := by
  unfold writeL
  split
  · exact ⟨Nat.le_succ _, Nat.le_succ _⟩
  · exact ⟨by show s.steps + 1 ≤ _; omega, by show (s.way ++ _).length ≤ _; simp⟩
theorem putB_few (s : Sl) (i : Int) (x : BlkD) : (putB s i x).1.steps ≤ s.steps + 1 ∧ (putB s i x).1.way.length ≤ s.way.length + 1 := by
  unfold putB
  split
  · exact ⟨Nat.le_succ _, Nat.le_succ _⟩
  · split
    · exact ⟨Nat.le_succ _, Nat.le_succ _⟩
    · split
      · exact ⟨Nat.le_succ _, Nat.le_succ _⟩
      · exact writeL_few _ _ _

set_option maxRecDepth 100000 in
set_option maxHeartbeats 1000000 in
theorem store_calls (w : World) (B g d : Nat) (wv : Value) (s : Sl) (r : RootD) (h : IsSlab w B g d wv s) (hr : r.Ok) (hq : Laid w) (hs : s.steps + 1 < 1000000) (hw : s.way.length < 1000000) :
    Calls Tryd.prog 70 #[.pointer (some ⟨g, 0, none⟩), .agg #[.int .u32 (r.turn : Int), .int .u32 (r.epoch : Int), .int .u32 (r.gen : Int), .int .u8 (r.area : Int)]] w (PutTo w B g d wv (storeB s r)) := by
  have h1 := hr.area
  have h2 := hr.turn
  have H := hid h
  have h1' : (r.area : Int) ≤ 255 := by omega
  have h2' : (r.turn : Int) ≤ 4294967295 := by omega
  unfold storeB
  by_cases ha : 1 < r.area
  · rw [if_pos ha]
    have ha' : (1 : Int) < (r.area : Int) := by omega
    clear h h1 h2 ha
    go_enter Tryd.func70, Tryd.ntmps70
    go_wp2_with fail
    go_ret
    exact putTo_no H.out (below_alloc _ _) 4
  rw [if_neg ha]
  have ha' : ¬ ((1 : Int) < (r.area : Int)) := by omega
  have hb1 := below_alloc w (.cells #[.int .u32 (r.turn : Int), .int .u32 (r.epoch : Int), .int .u32 (r.gen : Int), .int .u8 (r.area : Int)] 134)
  have hb2 := below_step hb1 (below_alloc (w.alloc (.cells #[.int .u32 (r.turn : Int), .int .u32 (r.epoch : Int), .int .u32 (r.gen : Int), .int .u8 (r.area : Int)] 134)) (.cells #[.int .u8 (r.area : Int)] 5))
  have hlit := lit_bs (w.alloc (.cells #[.int .u32 (r.turn : Int), .int .u32 (r.epoch : Int), .int .u32 (r.gen : Int), .int .u8 (r.area : Int)] 134)) 5 [UInt8.ofNat r.area] (by simp [maxLen])
  rw [show [UInt8.ofNat r.area].map u8v = [.int .u8 (r.area : Int)] from by rw [List.map_singleton, u8v_of' _ h1], show (w.alloc (.cells #[.int .u32 (r.turn : Int), .int .u32 (r.epoch : Int), .int .u32 (r.gen : Int), .int .u8 (r.area : Int)] 134)).heap.size = w.heap.size + 1 from by simp] at hlit
  have hP := put_any _ B g d wv s ((r.turn % 2 : Nat) : Int) _ 1 1 (rootBlk r) (H.out.below hb2) (by omega) ⟨by show 1 < 256; omega, hr.epoch, hr.turn, hr.gen⟩ hlit rfl (hq.below hb2 hq.1) (by omega) hw
  obtain ⟨P, hPe⟩ : ∃ P, putB s ((r.turn % 2 : Nat) : Int) (rootBlk r) = P := ⟨_, rfl⟩
  have hfew := putB_few s ((r.turn % 2 : Nat) : Int) (rootBlk r)
  rw [hPe] at hP hfew ⊢
  clear hPe
  obtain ⟨R, hR⟩ : ∃ R, (if P.2 ≠ 0 then P else flushL P.1) = R := ⟨_, rfl⟩
  rw [hR]
  have HR := hid hR
  have HF := hid hfew
  clear hR hfew
  rw [Int.natCast_emod] at hP
  have HP := hid (show Calls Tryd.prog 90 #[.pointer (some ⟨g, 0, none⟩), .int .i64 ((r.turn : Int) % 2), .agg #[.int .u8 1, .int .u32 (r.epoch : Int), .int .u32 (r.turn : Int), .int .u32 (r.gen : Int), .slice (some ⟨w.heap.size + 1, 0, none⟩) 1 1]] ((w.alloc (.cells #[.int .u32 (r.turn : Int), .int .u32 (r.epoch : Int), .int .u32 (r.gen : Int), .int .u8 (r.area : Int)] 134)).alloc (.cells #[.int .u8 (r.area : Int)] 5)) (PutTo ((w.alloc (.cells #[.int .u32 (r.turn : Int), .int .u32 (r.epoch : Int), .int .u32 (r.gen : Int), .int .u8 (r.area : Int)] 134)).alloc (.cells #[.int .u8 (r.area : Int)] 5)) B g d wv P) from hP)
  have HB := hid hb2
  have Hs := hid hs
  clear h h1 h2 ha hb1 hb2 hlit hP hs hw hq
  go_enter Tryd.func70, Tryd.ntmps70
  go_wp2_with fail
  refine HP.out.mono ?_
  rintro e w1 ⟨wv1, rfl, q1, q2, q3⟩
  have Q1 := hid q1
  have Q2 := hid ((Chg.of_below _ HB.out).trans q2)
  have Q3 := hid (fun k hk => (q3 k hk).imp id fun h => Nat.le_trans HB.out.size h)
  clear q1 q2 q3 HP
  by_cases h0 : P.2 = 0
  · have HR2 := hid (show flushL P.1 = R from by rw [← HR.out, if_neg (by simp [h0])])
    have h0' : ((P.2 : Int) != 0) = false := by simp; exact h0
    clear h0
    go_wp2_with fail
    refine (flush_calls _ B g d wv1 _ Q1.out (by have := HF.out.1; have := Hs.out; omega)).mono ?_
    intro e w2 ht
    rw [HR2.out] at ht
    obtain ⟨wv2, rfl, t2⟩ := slabTo_trans Q1.out Q2.out Q3.out ht
    have T2 := hid t2
    clear ht t2
    go_wp2_with fail
    go_ret
    exact ⟨wv2, rfl, T2.out⟩
  · have HR2 := hid (show P = R from by rw [← HR.out, if_pos h0])
    have h0' : ((P.2 : Int) != 0) = true := by simp; exact h0
    clear h0
    go_wp2_with fail
    go_ret
    rw [← HR2.out]
    exact ⟨wv1, rfl, Q1.out, Q2.out, Q3.out⟩

theorem nilflush_below (w : World) : Calls Tryd.prog 65 #[.pointer none] w fun e w' => e = .returned (.int .i64 6) ∧ w = w' := nilflush_calls w
set_option maxRecDepth 100000 in
set_option maxHeartbeats 1000000 in
theorem nilstore_calls (w : World) (v0 v1 v2 : Int) (v3 : Nat) (h : v3 < 256) (h0 : 0 ≤ v0 ∧ v0 < 4294967296) : Calls Tryd.prog 70 #[.pointer none, .agg #[.int .u32 v0, .int .u32 v1, .int .u32 v2, .int .u8 (v3 : Int)]] w fun e w' => e = .returned (.int .i64 6) ∧ Below w.heap.size w w' := by
  have h1 : (v3 : Int) ≤ 255 := by omega
  by_cases ha : (1 : Int) < (v3 : Int)
  all_goals
    go_enter Tryd.func70, Tryd.ntmps70
    go_wp2_with fail
    refine (nilput_calls _ _ _ _ _ _ _).mono ?_
    rintro e w1 ⟨rfl, hb⟩
    have hb2 := hid (((below_alloc w _).trans ((below_alloc _ _).mono (by simp))).trans (hb.mono (by simp; omega)))
    clear hb
    go_wp2_with fail
    go_ret
    exact ⟨rfl, hb2.out⟩
end Go.Proofs.YtoapibbbooongaaDoor
