/- A slab and the document's, side by side. -/
import Derived.Test.YtoapibbbooongaaDoorRfF
import Derived.Test.YtoapibbbooongaaDoorDraws
namespace Go.Proofs.YtoapibbbooongaaDoor
open Go.RowKit Go.Quad _root_.Quad.Slab

/-- both slabs, and blocks that neither has -/
structure Pl (wn : World) (B2 g d g2 dn dc : Nat) (X : List Nat) (s1 s2 : Sl) (w : World) : Prop where
  ex : ∃ wv F wv2, IsSlab w wn.heap.size g d wv s1 ∧ IsRf w F B2 g2 dn dc wv2 s2 ∧ (∀ k ∈ slS g d wv, ¬ F k) ∧ (∀ x ∈ X, x < w.heap.size ∧ x ∉ slS g d wv ∧ ¬ F x)
  bel : Below wn.heap.size wn w
  b2 : wn.heap.size ≤ B2

def XKeep (X : List Nat) (w w' : World) : Prop := ∀ x ∈ X, w'.heap[x]? = w.heap[x]?

theorem XKeep.of_chg {X S : List Nat} {w w' : World} (hc : Chg S w w') (h : ∀ x ∈ X, x < w.heap.size ∧ x ∉ S) : XKeep X w w' := fun x hx => hc.block x (h x hx).1 (h x hx).2
theorem XKeep.trans {X : List Nat} {a b c : World} (h : XKeep X a b) (k : XKeep X b c) : XKeep X a c := fun x hx => (k x hx).trans (h x hx)

theorem Pl.below {wn : World} {B2 g d g2 dn dc : Nat} {X : List Nat} {s1 s2 : Sl} {w w' : World} (h : Pl wn B2 g d g2 dn dc X s1 s2 w) (hb : Below w.heap.size w w') : Pl wn B2 g d g2 dn dc X s1 s2 w' := by
  obtain ⟨wv, F, wv2, h1, h2, h3, h4⟩ := h.ex
  exact ⟨⟨wv, F, wv2, h1.below hb, h2.below hb, h3, fun x hx => ⟨Nat.lt_of_lt_of_le (h4 x hx).1 hb.size, (h4 x hx).2⟩⟩, h.bel.trans (hb.mono h.bel.size), h.b2⟩
theorem Pl.keepX {wn : World} {B2 g d g2 dn dc : Nat} {X : List Nat} {s1 s2 : Sl} {w w' : World} (h : Pl wn B2 g d g2 dn dc X s1 s2 w) (hb : Below w.heap.size w w') : XKeep X w w' := by
  obtain ⟨wv, F, wv2, h1, h2, h3, h4⟩ := h.ex
  exact fun x hx => hb.block x (h4 x hx).1

/-- a block just made is neither's -/
theorem Pl.more {wn : World} {B2 g d g2 dn dc : Nat} {X : List Nat} {s1 s2 : Sl} {w w' : World} (h : Pl wn B2 g d g2 dn dc X s1 s2 w) (hb : Below w.heap.size w w') (x : Nat) (hx : w.heap.size ≤ x) (hx' : x < w'.heap.size) : Pl wn B2 g d g2 dn dc (x :: X) s1 s2 w' := by
  obtain ⟨wv, F, wv2, h1, h2, h3, h4⟩ := h.ex
  refine ⟨⟨wv, F, wv2, h1.below hb, h2.below hb, h3, fun y hy => ?_⟩, h.bel.trans (hb.mono h.bel.size), h.b2⟩
  rcases List.mem_cons.1 hy with rfl | hy
  · exact ⟨hx', fun hm => by have := (h1.in_ge _ hm).2; omega, fun hf => by have := (h2.lt _ hf).2; omega⟩
  · exact ⟨Nat.lt_of_lt_of_le (h4 y hy).1 hb.size, (h4 y hy).2⟩
theorem Pl.less {wn : World} {B2 g d g2 dn dc : Nat} {X Y : List Nat} {s1 s2 : Sl} {w : World} (h : Pl wn B2 g d g2 dn dc X s1 s2 w) (hY : ∀ y ∈ Y, y ∈ X) : Pl wn B2 g d g2 dn dc Y s1 s2 w := by
  obtain ⟨wv, F, wv2, h1, h2, h3, h4⟩ := h.ex
  exact ⟨⟨wv, F, wv2, h1, h2, h3, fun y hy => h4 y (hY y hy)⟩, h.bel, h.b2⟩
/-- what is changed in blocks that are kept changes neither -/
theorem Pl.other {wn : World} {B2 g d g2 dn dc : Nat} {X S : List Nat} {s1 s2 : Sl} {w w' : World} (h : Pl wn B2 g d g2 dn dc X s1 s2 w) (hc : Chg S w w') (hS : ∀ k ∈ S, k ∈ X) (hge : ∀ k ∈ S, wn.heap.size ≤ k) : Pl wn B2 g d g2 dn dc X s1 s2 w' := by
  obtain ⟨wv, F, wv2, h1, h2, h3, h4⟩ := h.ex
  exact ⟨⟨wv, F, wv2, h1.chg hc (fun k hk => (h4 k (hS k hk)).2.1), h2.keep hc (fun k hk => (h4 k (hS k hk)).2.2), h3, fun x hx => ⟨Nat.lt_of_lt_of_le (h4 x hx).1 hc.size, (h4 x hx).2⟩⟩, h.bel.trans (hc.below h.bel.size hge), h.b2⟩

theorem Pl.of_slab {wn w w' : World} {B2 g d g2 dn dc r : Nat} {X : List Nat} {s1 s1' s2 : Sl} {e : Ending} {wv : Value} {F : Nat → Prop} {wv2 : Value} (h1 : IsSlab w wn.heap.size g d wv s1) (h2 : IsRf w F B2 g2 dn dc wv2 s2) (h3 : ∀ k ∈ slS g d wv, ¬ F k)
    (h4 : ∀ x ∈ X, x < w.heap.size ∧ x ∉ slS g d wv ∧ ¬ F x) (hb : Below wn.heap.size wn w) (hb2 : wn.heap.size ≤ B2) (ht : SlabTo w wn.heap.size g d wv s1' r e w') :
    e = .returned (.int .i64 (r : Int)) ∧ Pl wn B2 g d g2 dn dc X s1' s2 w' ∧ XKeep X w w' := by
  obtain ⟨wv', rfl, q1, q2, q3⟩ := ht
  have hnew : ∀ k ∈ slS g d wv', k ∈ slS g d wv ∨ w.heap.size ≤ k := by
    intro k hk
    simp only [slS, List.mem_cons] at hk
    rcases hk with rfl | rfl | hk
    · exact .inl (by simp [slS])
    · exact .inl (by simp [slS])
    · exact q3 k (by simpa using hk)
  refine ⟨rfl, ⟨⟨wv', F, wv2, q1, h2.keep q2 (fun k hk => h3 k hk), fun k hk hf => ?_, fun x hx => ⟨Nat.lt_of_lt_of_le (h4 x hx).1 q2.size, fun hm => ?_, (h4 x hx).2.2⟩⟩, hb.trans (q2.below hb.size fun k hk => (h1.in_ge k hk).1), hb2⟩, XKeep.of_chg q2 fun x hx => ⟨(h4 x hx).1, (h4 x hx).2.1⟩⟩
  · rcases hnew k hk with h | h
    · exact h3 k h hf
    · have := (h2.lt k hf).2; omega
  · rcases hnew x hm with h | h
    · exact (h4 x hx).2.1 h
    · have := (h4 x hx).1; omega

theorem Pl.of_rf {wn w w' : World} {B2 g d g2 dn dc r : Nat} {X : List Nat} {s1 s2 s2' : Sl} {e : Ending} {wv : Value} {F : Nat → Prop} {wv2 : Value} (h1 : IsSlab w wn.heap.size g d wv s1) (h2 : IsRf w F B2 g2 dn dc wv2 s2) (h3 : ∀ k ∈ slS g d wv, ¬ F k)
    (h4 : ∀ x ∈ X, x < w.heap.size ∧ x ∉ slS g d wv ∧ ¬ F x) (hb : Below wn.heap.size wn w) (hb2 : wn.heap.size ≤ B2) (ht : RfTo w F B2 g2 dn dc s2' r e w') :
    e = .returned (.int .i64 (r : Int)) ∧ Pl wn B2 g d g2 dn dc X s1 s2' w' ∧ XKeep X w w' := by
  obtain ⟨wv', rfl, q1, q2⟩ := ht
  have hF : ∀ k ∈ [g2, dn], F k := by
    intro k hk
    simp only [List.mem_cons, List.not_mem_nil, or_false] at hk
    rcases hk with rfl | rfl
    · exact h2.inF.1
    · exact h2.inF.2.1
  refine ⟨rfl, ⟨⟨wv, _, wv', h1.chg q2 (fun k hk hm => h3 k hm (hF k hk)), q1, fun k hk hf => ?_, fun x hx => ⟨Nat.lt_of_lt_of_le (h4 x hx).1 q2.size, (h4 x hx).2.1, fun hf => ?_⟩⟩, hb.trans (q2.below hb.size fun k hk => by have := (h2.lt k (hF k hk)).1; omega), hb2⟩, XKeep.of_chg q2 fun x hx => ⟨(h4 x hx).1, fun hm => (h4 x hx).2.2 (hF x hm)⟩⟩
  · rcases hf with h | h
    · exact h3 k hk h
    · have := (h1.in_ge k hk).2; omega
  · rcases hf with h | h
    · exact (h4 x hx).2.2 h
    · have := (h4 x hx).1; omega

/-- bytes that neither changes -/
def OffX (wn : World) (X : List Nat) (a : Option Addr) (t : List UInt8) : Prop := t = [] ∨ ∀ x, a = some x → x.block < wn.heap.size ∨ x.block ∈ X

theorem pl_write {wn w : World} {B2 g d g2 dn dc : Nat} {X : List Nat} {s1 s2 : Sl} (h : Pl wn B2 g d g2 dn dc X s1 s2 w) (i : Int) (a : Option Addr) (cap n : Nat) (t : List UInt8) (hi : -9223372036854775808 ≤ i ∧ i ≤ 9223372036854775807) (ht : BS w a cap t) (hn : t.length = n) (hs : s1.steps < 1000000) (hw : s1.way.length < 1000000) (ho : OffX wn X a t) :
    Calls Tryd.prog 17 #[.pointer (some ⟨g, 0, none⟩), .int .i64 i, .slice a n cap] w fun e w' => e = .returned (.int .i64 ((writeL s1 i t).2 : Int)) ∧ Pl wn B2 g d g2 dn dc X (writeL s1 i t).1 s2 w' ∧ XKeep X w w' := by
  subst hn
  obtain ⟨wv, F, wv2, h1, h2, h3, h4⟩ := h.ex
  refine (write_any w _ g d wv s1 i a cap t h1 hi ht hs hw (ho.imp id fun ho x hx hm => ?_)).mono fun e w' ht => Pl.of_slab h1 h2 h3 h4 h.bel h.b2 ht
  rcases ho x hx with hh | hh
  · have := (h1.in_ge _ hm).1; omega
  · exact (h4 _ hh).2.1 hm

theorem pl_put {wn w : World} {B2 g d g2 dn dc : Nat} {X : List Nat} {s1 s2 : Sl} (h : Pl wn B2 g d g2 dn dc X s1 s2 w) (i : Int) (a : Option Addr) (cap n : Nat) (t : List UInt8) (hi : -9223372036854775808 ≤ i ∧ i ≤ 9223372036854775807) (ht : BS w a cap t) (hn : t.length = n) (hs : s2.steps < 1000000) (hw : s2.way.length < 1000000) (ho : OffX wn X a t) :
    Calls Tryd.prog 18 #[.pointer (some ⟨g2, 0, none⟩), .int .i64 i, .slice a n cap] w fun e w' => e = .returned (.int .i64 ((writeL s2 i t).2 : Int)) ∧ Pl wn B2 g d g2 dn dc X s1 (writeL s2 i t).1 w' ∧ XKeep X w w' := by
  subst hn
  obtain ⟨wv, F, wv2, h1, h2, h3, h4⟩ := h.ex
  refine (rput_any w F B2 g2 dn dc wv2 s2 i a cap t h2 hi ht hs hw (ho.imp id fun ho x hx hm => ?_)).mono fun e w' ht => Pl.of_rf h1 h2 h3 h4 h.bel h.b2 ht
  have hg := (h2.lt _ h2.inF.1).1
  have hb2 := h.b2
  rcases ho x hx with hh | hh
  · omega
  · exact (h4 _ hh).2.2 (by rw [hm]; exact h2.inF.1)

theorem pl_flush {wn w : World} {B2 g d g2 dn dc : Nat} {X : List Nat} {s1 s2 : Sl} (h : Pl wn B2 g d g2 dn dc X s1 s2 w) (hs : s1.steps < 1000000) :
    Calls Tryd.prog 65 #[.pointer (some ⟨g, 0, none⟩)] w fun e w' => e = .returned (.int .i64 ((flushL s1).2 : Int)) ∧ Pl wn B2 g d g2 dn dc X (flushL s1).1 s2 w' ∧ XKeep X w w' := by
  obtain ⟨wv, F, wv2, h1, h2, h3, h4⟩ := h.ex
  exact (flush_calls w _ g d wv s1 h1 hs).mono fun e w' ht => Pl.of_slab h1 h2 h3 h4 h.bel h.b2 ht
theorem pl_rflush {wn w : World} {B2 g d g2 dn dc : Nat} {X : List Nat} {s1 s2 : Sl} (h : Pl wn B2 g d g2 dn dc X s1 s2 w) (hs : s2.steps < 1000000) :
    Calls Tryd.prog 100 #[.pointer (some ⟨g2, 0, none⟩)] w fun e w' => e = .returned (.int .i64 ((flushL s2).2 : Int)) ∧ Pl wn B2 g d g2 dn dc X s1 (flushL s2).1 w' ∧ XKeep X w w' := by
  obtain ⟨wv, F, wv2, h1, h2, h3, h4⟩ := h.ex
  exact (rflush_calls w F B2 g2 dn dc wv2 s2 h2 hs).mono fun e w' ht => Pl.of_rf h1 h2 h3 h4 h.bel h.b2 ht

theorem pl_crash {wn w : World} {B2 g d g2 dn dc : Nat} {X : List Nat} {s1 s2 : Sl} (h : Pl wn B2 g d g2 dn dc X s1 s2 w) (a : Option Addr) (cap n : Nat) (t : List UInt8) (cut : Int) (hcut : -9223372036854775808 ≤ cut ∧ cut ≤ 9223372036854775807) (ht : BS w a cap t) (hn : t.length = n) (ho : OffX wn X a t) :
    Calls Tryd.prog 43 #[.pointer (some ⟨g, 0, none⟩), .slice a n cap, .int .i64 cut] w fun e w' => e = .returned (.int .i64 0) ∧ Pl wn B2 g d g2 dn dc X (crashL s1 t cut) s2 w' ∧ XKeep X w w' := by
  subst hn
  obtain ⟨wv, F, wv2, h1, h2, h3, h4⟩ := h.ex
  refine (crash_calls w _ g d wv s1 a cap t cut h1 ht (ho.imp id fun ho x hx hm => ?_) hcut).mono fun e w' ht => Pl.of_slab h1 h2 h3 h4 h.bel h.b2 ht
  rcases ho x hx with hh | hh
  · have := (h1.in_ge _ hm).1; omega
  · exact (h4 _ hh).2.1 hm
theorem pl_read {wn w : World} {B2 g d g2 dn dc : Nat} {X : List Nat} {s1 s2 : Sl} (h : Pl wn B2 g d g2 dn dc X s1 s2 w) (i : Int) (hi : -9223372036854775808 ≤ i ∧ i ≤ 9223372036854775807) :
    Calls Tryd.prog 82 #[.pointer (some ⟨g, 0, none⟩), .int .i64 i] w (ReadAny w (readL s1 i).1 (readL s1 i).2) := by
  obtain ⟨wv, F, wv2, h1, h2, h3, h4⟩ := h.ex
  exact read_any w _ g d wv s1 i h1 hi
theorem pl_get {wn w : World} {B2 g d g2 dn dc : Nat} {X : List Nat} {s1 s2 : Sl} (h : Pl wn B2 g d g2 dn dc X s1 s2 w) (i : Int) (hi : -9223372036854775808 ≤ i ∧ i ≤ 9223372036854775807) :
    Calls Tryd.prog 97 #[.pointer (some ⟨g2, 0, none⟩), .int .i64 i] w (ReadAny w (readL s2 i).1 (readL s2 i).2) := by
  obtain ⟨wv, F, wv2, h1, h2, h3, h4⟩ := h.ex
  exact rget_any w F B2 g2 dn dc wv2 s2 i h2 hi

/-- so many steps and writes at most -/
def Few (n : Nat) (s : Sl) : Prop := s.steps ≤ n ∧ s.way.length ≤ n ∧ s.done.length ≤ 20
theorem Few.more {n : Nat} {s : Sl} (h : Few n s) : Few (n + 1) s := ⟨Nat.le_succ_of_le h.1, Nat.le_succ_of_le h.2.1, h.2.2⟩
theorem Few.write {n : Nat} {s : Sl} (h : Few n s) (i : Int) (t : Bytes) : Few (n + 1) (writeL s i t).1 := by
  unfold writeL
  split
  · exact h.more
  · exact ⟨by show s.steps + 1 ≤ _; have := h.1; omega, by show (s.way ++ _).length ≤ _; have := h.2.1; simp; omega, h.2.2⟩
theorem Few.flush {n : Nat} {s : Sl} (h : Few n s) : Few (n + 1) (flushL s).1 := by
  unfold flushL
  split
  · exact h.more
  · split
    · exact ⟨by show s.steps + 1 ≤ _; have := h.1; omega, Nat.le_succ_of_le h.2.1, h.2.2⟩
    · exact ⟨by show s.steps + 1 ≤ _; have := h.1; omega, by simp, by show (s.way.foldl (fun d w => d.set w.1 w.2) s.done).length ≤ _; rw [(foldl_set_keep' s.way s.done)]; exact h.2.2⟩
where
  foldl_set_keep' : ∀ (l : List (Nat × Bytes)) (D : List Bytes), (l.foldl (fun d w => d.set w.1 w.2) D).length = D.length
  | [], D => rfl
  | x :: l, D => by rw [List.foldl_cons, foldl_set_keep' l]; simp
theorem Few.arm {n : Nat} {s : Sl} (h : Few n s) (i : Int) : Few (n + 1) (armL s i).1 := by
  unfold armL
  split
  · exact h.more
  · exact ⟨Nat.le_succ_of_le h.1, Nat.le_succ_of_le h.2.1, h.2.2⟩
theorem Few.crash {n : Nat} {s : Sl} (h : Few n s) (t : Bytes) (c : Int) : Few (n + 1) (crashL s t c) :=
  ⟨Nat.le_succ_of_le h.1, by simp [crashL], by show (crashD _ _ _ _ _).length ≤ _; rw [crashD_length]; exact h.2.2⟩

theorem ownsRow_x {w w' : World} {base : Nat} {e : TypeId} {size : Nat} {v : Value} {n : Nat} {xs : List Value} (h : w.ownsRow base e size v n xs) (hk : ∀ k, v.ownBlock = some k → w'.heap[k]? = w.heap[k]?) : w'.ownsRow base e size v n xs := by
  refine ⟨h.1, ?_⟩
  rcases h.2 with h0 | ⟨g, cap, cur, rfl, hb, hg, h1⟩
  · exact .inl h0
  · exact .inr ⟨g, cap, cur, rfl, hb, by rw [hk g rfl]; exact hg, h1⟩
theorem OB.x {X : List Nat} {w w' : World} {base : Nat} {e : TypeId} {v : Value} {l : List UInt8} (h : OB w base e v l) (hX : XKeep X w w') (hv : ∀ k, v.ownBlock = some k → k ∈ X) : OB w' base e v l := ownsRow_x h fun k hk => hX k (hv k hk)
theorem Blk.x {X : List Nat} {w w' : World} {g : Nat} {cs : List Value} {t : TypeId} (h : Blk w g cs t) (hX : XKeep X w w') (hg : g ∈ X) : Blk w' g cs t := by
  unfold Blk at *; rw [hX g hg]; exact h

theorem Pl.moreL {wn : World} {B2 g d g2 dn dc : Nat} {X L : List Nat} {s1 s2 : Sl} {w w' : World} (h : Pl wn B2 g d g2 dn dc X s1 s2 w) (hb : Below w.heap.size w w') (hL : ∀ x ∈ L, w.heap.size ≤ x ∧ x < w'.heap.size) : Pl wn B2 g d g2 dn dc (X ++ L) s1 s2 w' := by
  obtain ⟨wv, F, wv2, h1, h2, h3, h4⟩ := h.ex
  refine ⟨⟨wv, F, wv2, h1.below hb, h2.below hb, h3, fun y hy => ?_⟩, h.bel.trans (hb.mono h.bel.size), h.b2⟩
  rcases List.mem_append.1 hy with hy | hy
  · exact ⟨Nat.lt_of_lt_of_le (h4 y hy).1 hb.size, (h4 y hy).2⟩
  · exact ⟨(hL y hy).2, fun hm => by have := (h1.in_ge _ hm).2; have := (hL y hy).1; omega, fun hf => by have := (h2.lt _ hf).2; have := (hL y hy).1; omega⟩

theorem offX_old {wn W : World} {X : List Nat} {a : Option Addr} {cap : Nat} {t : List UInt8} (h : BS W a cap t) (hs : W.heap.size ≤ wn.heap.size) : OffX wn X a t := by
  by_cases ht : t = []
  · exact .inl ht
  · obtain ⟨b, off, rfl, hc⟩ := CS.at h (by simpa using List.length_pos_iff.2 ht)
    have hlt := World.block_lt_of_cell? W ⟨b, off + 0, none⟩ (hc 0 _ (List.getElem?_eq_getElem (by simpa using List.length_pos_iff.2 ht)))
    refine .inr fun x hx => .inl ?_
    cases hx
    have : b < W.heap.size := hlt
    show b < _
    omega
/-- bytes of the call's own, as an argument -/
theorem ob_arg {wn w : World} {X : List Nat} {base n : Nat} {a : Option Addr} {c : Nat} {l : List UInt8} (h : OB w base 5 (.slice a n c) l) (hX : ∀ k, (Value.slice a n c).ownBlock = some k → k ∈ X) : BS w a c l ∧ l.length = n ∧ OffX wn X a l := by
  obtain ⟨a', c', e, hbs, hof⟩ := h.bs
  simp only [Value.slice.injEq] at e
  obtain ⟨rfl, hn, rfl⟩ := e
  refine ⟨hbs, hn.symm, .inr fun x hx => .inr (hX _ ?_)⟩
  obtain ⟨h0, h1, _⟩ := hof x hx
  rw [hx]
  obtain ⟨b, off, spot⟩ := x
  dsimp only at h0 h1
  subst h0 h1
  rfl

/-- bytes turned one by one: those from the j-th on stand still -/
def XorRel (P : World → Prop) (base : Nat) (v : Value) (l : List UInt8) (iv : Value) (wr : World) : Prop :=
  ∃ (j : Nat) (xs : List Value), iv = .int .i64 (j : Int) ∧ j ≤ l.length ∧ wr.ownsRow base 5 1 v l.length xs ∧ xs.drop j = (l.drop j).map u8v ∧ P wr

theorem xor_start {P : World → Prop} {base : Nat} {v : Value} {l : List UInt8} {w : World} (h : OB w base 5 v l) (hP : P w) : XorRel P base v l (.int .i64 0) w := ⟨0, l.map u8v, rfl, Nat.zero_le _, h, by simp, hP⟩

theorem xor_at {P : World → Prop} {base : Nat} {v : Value} {l : List UInt8} {j : Nat} {xs : List Value} {wr : World} (hj : j < l.length) (hR : wr.ownsRow base 5 1 v l.length xs) (hx : xs.drop j = (l.drop j).map u8v) :
    ∃ (b c x : Nat), v = .slice (some ⟨b, 0, none⟩) l.length c ∧ wr.cell? ⟨b, j, none⟩ = some (.int .u8 (x : Int)) ∧ wr.frozen? ⟨b, j, none⟩ = false ∧ ((x : Nat) : Int) ≤ 255 ∧ base ≤ b ∧
      (∀ u, P (wr.setCell ⟨b, j, none⟩ u) → XorRel P base v l (.int .i64 ((j : Int) + 1)) (wr.setCell ⟨b, j, none⟩ u)) := by
  rcases hR.2 with ⟨rfl, h0⟩ | ⟨b, c, cur, rfl, hb, _⟩
  · omega
  · have hxl : xs.length = l.length := by have := hR.1; simpa using this
    have hget : xs[j]? = some (u8v l[j]) := by
      have h1 : (xs.drop j)[0]? = ((l.drop j).map u8v)[0]? := by rw [hx]
      rw [List.getElem?_drop, Nat.add_zero] at h1
      rw [h1]
      simp [List.getElem?_eq_getElem hj]
    obtain ⟨q1, q2⟩ := row_at hR j hj hget
    refine ⟨b, c, l[j].toNat, rfl, q1, q2, by have := l[j].toNat_lt; omega, hb, fun u hP => ⟨j + 1, xs.set j u, by go_num, by omega, (row_store hR j u).1, ?_, hP⟩⟩
    rw [List.drop_set_of_lt (by omega)]
    have : xs.drop (j + 1) = (xs.drop j).drop 1 := by rw [List.drop_drop]
    rw [this, hx, ← List.map_drop, List.drop_drop]

/-- a byte changed in a block that is kept -/
theorem Pl.setX {wn w : World} {B2 g d g2 dn dc : Nat} {X : List Nat} {s1 s2 : Sl} (h : Pl wn B2 g d g2 dn dc X s1 s2 w) (b i : Nat) (u : Value) (hb : b ∈ X) (hge : wn.heap.size ≤ b) : Pl wn B2 g d g2 dn dc X s1 s2 (w.setCell ⟨b, i, none⟩ u) :=
  h.other (chg_setCell w b i u) (by simpa using hb) (by simpa using hge)

def DnRel (n : Nat) (w0 : World) (iv : Value) (w : World) : Prop := ∃ i : Nat, iv = .int .i64 (i : Int) ∧ i ≤ n ∧ Below w0.heap.size w0 w

theorem qwrite (w : World) (i : Int) (a : Option Addr) (n cap : Nat) : Calls Tryd.prog 17 #[.pointer none, .int .i64 i, .slice a n cap] w fun e w' => e = .returned (.int .i64 6) ∧ w' = w := (nilwrite_calls w i a n cap).mono fun _ _ ⟨h1, h2⟩ => ⟨h1, h2.symm⟩
theorem qput (w : World) (i : Int) (a : Option Addr) (n cap : Nat) : Calls Tryd.prog 18 #[.pointer none, .int .i64 i, .slice a n cap] w fun e w' => e = .returned (.int .i64 6) ∧ w' = w := (nilrput_calls w i a n cap).mono fun _ _ ⟨h1, h2⟩ => ⟨h1, h2.symm⟩
theorem qcrash (w : World) (v : Value) (i : Int) : Calls Tryd.prog 43 #[.pointer none, v, .int .i64 i] w fun e w' => e = .returned (.int .i64 6) ∧ w' = w := (nilcrash_calls w v i).mono fun _ _ ⟨h1, h2⟩ => ⟨h1, h2.symm⟩
def BadRel (w : World) (n : Nat) (iv : Value) (wr : World) : Prop := ∃ k : Nat, iv = .int .i64 (k : Int) ∧ k ≤ n ∧ k ≤ 60 ∧ Below w.heap.size w wr
def MidBad (w0 : World) (b : Value) (w : World) : Prop := b = .bool true ∧ Below w0.heap.size w0 w
end Go.Proofs.YtoapibbbooongaaDoor
