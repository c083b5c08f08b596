/- A slab's write and read at anything; the example. -/
import Derived.Test.YtoapibbbooongaaDoorSlabF
namespace Go.Proofs.YtoapibbbooongaaDoor
open Go.RowKit Go.Quad _root_.Quad.Slab

theorem nilwrite_calls (w : World) (i : Int) (a : Option Addr) (n cap : Nat) : Calls Tryd.prog 17 #[.pointer none, .int .i64 i, .slice a n cap] w fun e w' => e = .returned (.int .i64 6) ∧ w = w' := by
  go_enter Tryd.func17, Tryd.ntmps17
  go_wp2_with fail
  refine (nilhas_calls _ _ _).mono ?_
  rintro e w' ⟨rfl, rfl⟩
  go_wp2_with fail
  go_ret
  exact ⟨rfl, rfl⟩

theorem nilread_calls (w : World) (i : Int) : Calls Tryd.prog 82 #[.pointer none, .int .i64 i] w fun e w' => e = .returned (.tuple #[.slice none 0 0, .int .i64 6]) ∧ w = w' := by
  go_enter Tryd.func82, Tryd.ntmps82
  go_wp2_with fail
  refine (nilhas_calls _ _ _).mono ?_
  rintro e w' ⟨rfl, rfl⟩
  go_wp2_with fail
  go_ret2
  exact ⟨rfl, rfl⟩

theorem writeno_calls (w : World) (B g d : Nat) (wv : Value) (s : Sl) (i : Int) (n : Nat) (a : Option Addr) (cap m : Nat) (h : IsSlab w B g d wv s) (hi : -9223372036854775808 ≤ i ∧ i ≤ 9223372036854775807) (hm : m ≤ 9223372036854775807) (h0 : hasL s i m = n) (hn : n ≠ 0) :
    Calls Tryd.prog 17 #[.pointer (some ⟨g, 0, none⟩), .int .i64 i, .slice a m cap] w fun e w' => e = .returned (.int .i64 (n : Int)) ∧ w = w' := by
  have C := has_calls w B g d wv s i m h hi (by omega)
  rw [h0] at C
  have Cx := hid C
  have hb : ((n : Int) == 0) = false := by rw [beq_eq_false_iff_ne]; omega
  have hb' : ((n : Int) != 0) = true := by rw [bne_iff_ne]; omega
  clear h C h0 hn
  go_enter Tryd.func17, Tryd.ntmps17
  go_wp2_with fail
  refine Cx.out.mono ?_
  rintro e w' ⟨rfl, rfl⟩
  go_wp2_with fail
  go_ret
  exact ⟨rfl, rfl⟩

/-- a write, of anything, anywhere -/
theorem write_any (w : World) (B g d : Nat) (wv : Value) (s : Sl) (i : Int) (a : Option Addr) (cap : Nat) (t : List UInt8) (h : IsSlab w B g d wv s) (hi : -9223372036854775808 ≤ i ∧ i ≤ 9223372036854775807) (ht : BS w a cap t) (hs : s.steps < 1000000) (hw : s.way.length < 1000000) (hoff : t = [] ∨ ∀ x, a = some x → x.block ∉ slS g d wv) :
    Calls Tryd.prog 17 #[.pointer (some ⟨g, 0, none⟩), .int .i64 i, .slice a t.length cap] w (SlabTo w B g d wv (writeL s i t).1 (writeL s i t).2) := by
  by_cases h0 : hasL s i t.length = 0
  · exact write_calls w B g d wv s i a cap t h hi ht hs hw hoff h0
  · rw [show writeL s i t = (s, hasL s i t.length) from by unfold writeL; rw [if_pos h0]]
    refine (writeno_calls w B g d wv s i _ a cap t.length h hi ht.max' rfl h0).mono ?_
    rintro e w' ⟨rfl, rfl⟩
    exact ⟨wv, rfl, h, Chg.refl _ _, fun k hk => .inl (by simp [slS, hk])⟩

/-- a read, anywhere -/
def ReadAny (w : World) (p : List UInt8) (n : Nat) (e : Ending) (w' : World) : Prop := ∃ v, e = .returned (.tuple #[v, .int .i64 (n : Int)]) ∧ OB w' w.heap.size 5 v p ∧ Below w.heap.size w w'

theorem read_any (w : World) (B g d : Nat) (wv : Value) (s : Sl) (i : Int) (h : IsSlab w B g d wv s) (hi : -9223372036854775808 ≤ i ∧ i ≤ 9223372036854775807) :
    Calls Tryd.prog 82 #[.pointer (some ⟨g, 0, none⟩), .int .i64 i] w (ReadAny w (readL s i).1 (readL s i).2) := by
  by_cases h0 : hasL s i 0 = 0
  · have hin := hasL_in h0
    obtain ⟨k, rfl⟩ : ∃ k : Nat, i = k := ⟨i.toNat, by omega⟩
    rw [show readL s (k : Int) = (seenL s k, 0) from by unfold readL; rw [if_neg (by rw [h0]; simp)]; rfl]
    exact read_calls w B g d wv s k h h0
  · rw [show readL s i = ([], hasL s i 0) from by unfold readL; rw [if_pos h0]]
    refine (readno_calls w B g d wv s i _ h hi rfl h0).mono ?_
    rintro e w' ⟨rfl, rfl⟩
    exact ⟨_, rfl, World.ownsRow_nil _ _ _ _, Below.refl _ _⟩

/-! ### one slab, from the world before it was made -/
theorem IsSlab.in_ge {w : World} {B g d : Nat} {wv : Value} {s : Sl} (h : IsSlab w B g d wv s) : ∀ k ∈ slS g d wv, B ≤ k ∧ k < w.heap.size := by
  intro k hk
  simp only [slS, List.mem_cons] at hk
  rcases hk with rfl | rfl | hk
  · exact ⟨h.ge.1, h.own.lt⟩
  · exact ⟨h.ge.2, h.don.lt⟩
  · exact World.ownsRow.lt h.way k (by simpa using hk)

/-- from w0 on nothing that was there has changed; at g a slab lies -/
def SA (w0 : World) (g : Nat) (s : Sl) (w : World) : Prop := (∃ d wv, IsSlab w w0.heap.size g d wv s) ∧ Below w0.heap.size w0 w

theorem SA.below {w0 w w' : World} {g : Nat} {s : Sl} (h : SA w0 g s w) (hb : Below w.heap.size w w') : SA w0 g s w' := by
  obtain ⟨⟨d, wv, h1⟩, h2⟩ := h
  exact ⟨⟨d, wv, h1.below hb⟩, h2.trans (hb.mono h2.size)⟩

theorem SA.to {w0 w w' : World} {g d : Nat} {wv : Value} {s s' : Sl} {r : Nat} {e : Ending} (h : IsSlab w w0.heap.size g d wv s) (hb : Below w0.heap.size w0 w) (ht : SlabTo w w0.heap.size g d wv s' r e w') : e = .returned (.int .i64 (r : Int)) ∧ SA w0 g s' w' := by
  obtain ⟨wv', rfl, h1, h2, h3⟩ := ht
  exact ⟨rfl, ⟨d, wv', h1⟩, hb.trans (h2.below hb.size fun k hk => (h.in_ge k hk).1)⟩

/-- where bytes lie that no slab has: they were there before, or came later -/
def OffS (w0 w : World) (g : Nat) (a : Option Addr) (t : List UInt8) : Prop := t = [] ∨ ∀ x, a = some x → x.block < w0.heap.size ∨ ∀ d wv s, IsSlab w w0.heap.size g d wv s → x.block ∉ slS g d wv

theorem sa_write (w0 w : World) (g : Nat) (s : Sl) (i : Int) (a : Option Addr) (cap : Nat) (t : List UInt8) (h : SA w0 g s w) (hi : -9223372036854775808 ≤ i ∧ i ≤ 9223372036854775807) (ht : BS w a cap t) (hs : s.steps < 1000000) (hw : s.way.length < 1000000) (hoff : OffS w0 w g a t) :
    Calls Tryd.prog 17 #[.pointer (some ⟨g, 0, none⟩), .int .i64 i, .slice a t.length cap] w fun e w' => e = .returned (.int .i64 ((writeL s i t).2 : Int)) ∧ SA w0 g (writeL s i t).1 w' := by
  obtain ⟨⟨d, wv, h1⟩, h2⟩ := h
  refine (write_any w _ g d wv s i a cap t h1 hi ht hs hw ?_).mono fun e w' ht => SA.to h1 h2 ht
  refine hoff.imp id fun hoff x hx hm => ?_
  rcases hoff x hx with h | h
  · have := (h1.in_ge _ hm).1; omega
  · exact h d wv s h1 hm

theorem sa_flush (w0 w : World) (g : Nat) (s : Sl) (h : SA w0 g s w) (hs : s.steps < 1000000) :
    Calls Tryd.prog 65 #[.pointer (some ⟨g, 0, none⟩)] w fun e w' => e = .returned (.int .i64 ((flushL s).2 : Int)) ∧ SA w0 g (flushL s).1 w' := by
  obtain ⟨⟨d, wv, h1⟩, h2⟩ := h
  exact (flush_calls w _ g d wv s h1 hs).mono fun e w' ht => SA.to h1 h2 ht

theorem sa_crash (w0 w : World) (g : Nat) (s : Sl) (a : Option Addr) (cap : Nat) (fates : List UInt8) (cut : Int) (h : SA w0 g s w) (hf : BS w a cap fates) (hoff : OffS w0 w g a fates) (hcut : -9223372036854775808 ≤ cut ∧ cut ≤ 9223372036854775807) :
    Calls Tryd.prog 43 #[.pointer (some ⟨g, 0, none⟩), .slice a fates.length cap, .int .i64 cut] w fun e w' => e = .returned (.int .i64 0) ∧ SA w0 g (crashL s fates cut) w' := by
  obtain ⟨⟨d, wv, h1⟩, h2⟩ := h
  refine (crash_calls w _ g d wv s a cap fates cut h1 hf ?_ hcut).mono fun e w' ht => SA.to h1 h2 ht
  refine hoff.imp id fun hoff x hx hm => ?_
  rcases hoff x hx with h | h
  · have := (h1.in_ge _ hm).1; omega
  · exact h d wv s h1 hm

theorem sa_read (w0 w : World) (g : Nat) (s : Sl) (i : Int) (h : SA w0 g s w) (hi : -9223372036854775808 ≤ i ∧ i ≤ 9223372036854775807) :
    Calls Tryd.prog 82 #[.pointer (some ⟨g, 0, none⟩), .int .i64 i] w fun e w' => ∃ v, e = .returned (.tuple #[v, .int .i64 ((readL s i).2 : Int)]) ∧ OB w' w.heap.size 5 v (readL s i).1 ∧ Below w.heap.size w w' ∧ SA w0 g s w' := by
  obtain ⟨⟨d, wv, h1⟩, h2⟩ := h
  refine (read_any w _ g d wv s i h1 hi).mono ?_
  rintro e w' ⟨v, rfl, h3, hb⟩
  exact ⟨v, rfl, h3, hb, ⟨d, wv, h1.below hb⟩, h2.trans (hb.mono h2.size)⟩

theorem sa_new (w : World) (n : Nat) (h : 1 ≤ n ∧ n ≤ 4096) : Calls Tryd.prog 12 #[.int .i64 (n : Int)] w fun e w' => ∃ g, e = .returned (.tuple #[.pointer (some ⟨g, 0, none⟩), .int .i64 0]) ∧ SA w g (newL n) w' := by
  refine (newslab_calls w n h).mono ?_
  rintro e w' ⟨g, d, rfl, h1, h2⟩
  exact ⟨g, rfl, ⟨d, _, h1⟩, h2⟩

theorem SA.off_new {w0 w w' : World} {g : Nat} {s : Sl} (h : SA w0 g s w) (hb : Below w.heap.size w w') {a : Option Addr} (ha : ∀ x, a = some x → w.heap.size ≤ x.block) {t : List UInt8} : OffS w0 w' g a t := by
  obtain ⟨⟨d, wv, h1⟩, h2⟩ := h
  refine .inr fun x hx => ?_
  right
  intro d' wv' s' h' hm
  have e0 := (h'.own.get 0 rfl).symm.trans ((h1.below hb).own.get 0 rfl)
  have e1 := (h'.own.get 1 rfl).symm.trans ((h1.below hb).own.get 1 rfl)
  simp only [Option.some.injEq, Value.slice.injEq, Addr.mk.injEq] at e0 e1
  obtain ⟨⟨hd, _⟩, _⟩ := e0
  subst hd e1
  have := (h1.in_ge _ hm).2
  have := ha x hx
  omega

theorem SA.off_old {w0 w : World} {g : Nat} {a : Option Addr} {t : List UInt8} {W : World} {cap : Nat} (h : BS W a cap t) (hs : W.heap.size ≤ w0.heap.size) : OffS w0 w g a t := by
  by_cases ht : t = []
  · exact .inl ht
  · obtain ⟨b, off, rfl, hc⟩ := CS.at h (by simpa using List.length_pos_iff.2 ht)
    have hlt := World.block_lt_of_cell? W ⟨b, off + 0, none⟩ (hc 0 _ (List.getElem?_eq_getElem (by simpa using List.length_pos_iff.2 ht)))
    refine .inr fun x hx => .inl ?_
    cases hx
    have : b < W.heap.size := hlt
    show b < _
    omega


end Go.Proofs.YtoapibbbooongaaDoor
