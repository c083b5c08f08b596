/- A slab on which steps are taken, and blocks beside it. -/
import Derived.Test.YtoapibbbooongaaDoorImgM
import Derived.Test.YtoapibbbooongaaDoorBlkB
import Derived.StillTailTactics
namespace Go.Proofs.YtoapibbbooongaaDoor
open Go.RowKit Go.Quad _root_.Quad _root_.Quad.Slab

theorem chg_next {S T : List Nat} {a b c : World} (h : Chg S a b) (k : Chg T b c) (hT : ∀ q ∈ T, q ∈ S ∨ a.heap.size ≤ q) : Chg S a c :=
  ⟨k.os.trans h.os, k.tape.trans h.tape, k.output.trans h.output, Nat.le_trans h.size k.size, fun i hi hs => (k.block i (Nat.lt_of_lt_of_le hi h.size) (fun hm => by
    rcases hT i hm with h1 | h1
    · exact hs h1
    · omega)).trans (h.block i hi hs)⟩
/-- a slab that steps were taken on since w0, and blocks X beside it -/
def SG (w0 : World) (B g d : Nat) (wv0 : Value) (X : List Nat) (s : Sl) (w : World) : Prop :=
  ∃ wv, IsSlab w B g d wv s ∧ Chg (slS g d wv0) w0 w ∧ (∀ k, wv.ownBlock = some k → k ∈ slS g d wv0 ∨ w0.heap.size ≤ k) ∧ ∀ x ∈ X, x < w.heap.size ∧ x ∉ slS g d wv
theorem slS_mem {g d k : Nat} {wv : Value} (h : k ∈ slS g d wv) : k = g ∨ k = d ∨ wv.ownBlock = some k := by
  simp only [slS, List.mem_cons, Option.mem_toList] at h
  exact h
theorem slS_own {g d k : Nat} {wv : Value} (h : wv.ownBlock = some k) : k ∈ slS g d wv := by simp [slS, h]
theorem SG.start {w : World} {B g d : Nat} {wv : Value} {s : Sl} (h : IsSlab w B g d wv s) : SG w B g d wv [] s w := ⟨wv, h, Chg.refl _ _, fun k hk => .inl (slS_own hk), by simp⟩
theorem SG.below {w0 w w' : World} {B g d : Nat} {wv0 : Value} {X : List Nat} {s : Sl} (h : SG w0 B g d wv0 X s w) (hb : Below w.heap.size w w') : SG w0 B g d wv0 X s w' := by
  obtain ⟨wv, h1, h2, h3, h4⟩ := h
  exact ⟨wv, h1.below hb, h2.trans (Chg.of_below _ hb), h3, fun x hx => ⟨Nat.lt_of_lt_of_le (h4 x hx).1 hb.size, (h4 x hx).2⟩⟩
theorem SG.more {w0 w w' : World} {B g d : Nat} {wv0 : Value} {X : List Nat} {s : Sl} (h : SG w0 B g d wv0 X s w) (hb : Below w.heap.size w w') (y : Nat) (hy : w.heap.size ≤ y ∧ y < w'.heap.size) : SG w0 B g d wv0 (y :: X) s w' := by
  have hz : ∀ wv, IsSlab w B g d wv s → y ∉ slS g d wv := fun wv h1 hm => by have := (h1.in_ge _ hm).2; omega
  obtain ⟨wv, h1, h2, h3, h4⟩ := h
  refine ⟨wv, h1.below hb, h2.trans (Chg.of_below _ hb), h3, fun x hx => ?_⟩
  rcases List.mem_cons.1 hx with rfl | hx
  · exact ⟨hy.2, hz wv h1⟩
  · exact ⟨Nat.lt_of_lt_of_le (h4 x hx).1 hb.size, (h4 x hx).2⟩
/-- what is changed in those blocks -/
theorem SG.other {w0 w w' : World} {B g d : Nat} {wv0 : Value} {X S : List Nat} {s : Sl} (h : SG w0 B g d wv0 X s w) (hc : Chg S w w') (hS : ∀ k ∈ S, k ∈ X ∧ w0.heap.size ≤ k) : SG w0 B g d wv0 X s w' := by
  obtain ⟨wv, h1, h2, h3, h4⟩ := h
  exact ⟨wv, h1.chg hc (fun k hk => (h4 k (hS k hk).1).2), h2.newer hc (fun q hq => (hS q hq).2), h3, fun x hx => ⟨Nat.lt_of_lt_of_le (h4 x hx).1 hc.size, (h4 x hx).2⟩⟩
theorem SG.to {w0 w w' : World} {B g d : Nat} {wv0 wv : Value} {X : List Nat} {s s' : Sl} {r : Nat} {e : Ending} (h1 : IsSlab w B g d wv s) (h2 : Chg (slS g d wv0) w0 w) (h3 : ∀ k, wv.ownBlock = some k → k ∈ slS g d wv0 ∨ w0.heap.size ≤ k) (h4 : ∀ x ∈ X, x < w.heap.size ∧ x ∉ slS g d wv)
    (ht : SlabTo w B g d wv s' r e w') : e = .returned (.int .i64 (r : Int)) ∧ SG w0 B g d wv0 X s' w' ∧ ∀ x ∈ X, w'.heap[x]? = w.heap[x]? := by
  obtain ⟨wv', e1, q1, q2, q3⟩ := ht
  have hin : ∀ k ∈ slS g d wv, k ∈ slS g d wv0 ∨ w0.heap.size ≤ k := by
    intro k hk
    rcases slS_mem hk with rfl | rfl | hk
    · exact .inl (by simp [slS])
    · exact .inl (by simp [slS])
    · exact h3 k hk
  refine ⟨e1, ⟨wv', q1, chg_next h2 q2 hin, fun k hk => ?_, fun x hx => ⟨Nat.lt_of_lt_of_le (h4 x hx).1 q2.size, fun hm => ?_⟩⟩, fun x hx => q2.block x (h4 x hx).1 (h4 x hx).2⟩
  · rcases q3 k hk with h | h
    · exact hin k h
    · exact .inr (Nat.le_trans h2.size h)
  · rcases slS_mem hm with rfl | rfl | hk
    · exact (h4 _ hx).2 (by simp [slS])
    · exact (h4 _ hx).2 (by simp [slS])
    · rcases q3 x hk with h | h
      · exact (h4 x hx).2 h
      · have := (h4 x hx).1; omega
theorem SG.out {w0 w : World} {B g d : Nat} {wv0 : Value} {X : List Nat} {s : Sl} {r : Nat} (h : SG w0 B g d wv0 X s w) : SlabTo w0 B g d wv0 s r (.returned (.int .i64 (r : Int))) w := by
  obtain ⟨wv, h1, h2, h3, _⟩ := h
  exact ⟨wv, rfl, h1, h2, h3⟩
theorem SG.chg {w0 w : World} {B g d : Nat} {wv0 : Value} {X : List Nat} {s : Sl} (h : SG w0 B g d wv0 X s w) : Chg (slS g d wv0) w0 w := by
  obtain ⟨wv, h1, h2, h3, _⟩ := h
  exact h2
theorem SG.laid {w0 w : World} {B g d : Nat} {wv0 : Value} {X : List Nat} {s s0 : Sl} (h : SG w0 B g d wv0 X s w) (h0 : IsSlab w0 B g d wv0 s0) (hq : Laid w0) (hB : 0 < B) : Laid w :=
  hq.below (h.chg.below (Nat.le_trans (h0.in_ge g (by simp [slS])).1 (Nat.le_of_lt (h0.in_ge g (by simp [slS])).2)) fun k hk => (h0.in_ge k hk).1) hB
theorem sg_put {w0 w : World} {B g d : Nat} {wv0 : Value} {X : List Nat} {s : Sl} (h : SG w0 B g d wv0 X s w) (i : Int) (da : Option Addr) (dn dc : Nat) (x : BlkD) (hi : -9223372036854775808 ≤ i ∧ i ≤ 9223372036854775807) (hx : x.Ok)
    (hd : BS w da dc x.data) (hn : x.data.length = dn) (hq : Laid w) (hs : s.steps < 1000000) (hw : s.way.length < 1000000) :
    Calls Tryd.prog 90 #[.pointer (some ⟨g, 0, none⟩), .int .i64 i, .agg #[.int .u8 (x.kind : Int), .int .u32 (x.epoch : Int), .int .u32 (x.a : Int), .int .u32 (x.b : Int), .slice da dn dc]] w fun e w' =>
      e = .returned (.int .i64 ((putB s i x).2 : Int)) ∧ SG w0 B g d wv0 X (putB s i x).1 w' ∧ ∀ x ∈ X, w'.heap[x]? = w.heap[x]? := by
  obtain ⟨wv, h1, h2, h3, h4⟩ := h
  exact (put_any w B g d wv s i da dn dc x h1 hi hx hd hn hq hs hw).mono fun e w' ht => SG.to h1 h2 h3 h4 ht
theorem sg_flush {w0 w : World} {B g d : Nat} {wv0 : Value} {X : List Nat} {s : Sl} (h : SG w0 B g d wv0 X s w) (hs : s.steps < 1000000) :
    Calls Tryd.prog 65 #[.pointer (some ⟨g, 0, none⟩)] w fun e w' =>
      e = .returned (.int .i64 ((flushL s).2 : Int)) ∧ SG w0 B g d wv0 X (flushL s).1 w' ∧ ∀ x ∈ X, w'.heap[x]? = w.heap[x]? := by
  obtain ⟨wv, h1, h2, h3, h4⟩ := h
  exact (flush_calls w B g d wv s h1 hs).mono fun e w' ht => SG.to h1 h2 h3 h4 ht
theorem putB_small (s : Sl) (i : Int) (x : BlkD) : (putB s i x).1.steps ≤ s.steps + 1 ∧ (putB s i x).1.way.length ≤ s.way.length + 1 := by
  unfold putB
  split
  · simp
  · split
    · simp
    · split
      · simp
      · unfold writeL
        split
        · simp
        · simp [stepL]
theorem flushL_small (s : Sl) : (flushL s).1.steps ≤ s.steps + 1 ∧ (flushL s).1.way.length ≤ s.way.length := by
  unfold flushL
  split
  · simp
  · split
    · simp [stepL]
    · simp [stepL]
theorem thenS_stop {p : Sl × Nat} {g : Sl → Sl × Nat} (h : p.2 ≠ 0) : thenS p g = p := by unfold thenS; rw [if_pos h]
theorem thenS_go {p : Sl × Nat} {g : Sl → Sl × Nat} (h : p.2 = 0) : thenS p g = g p.1 := by unfold thenS; rw [if_neg (by simpa using h)]
end Go.Proofs.YtoapibbbooongaaDoor
