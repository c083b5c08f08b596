/- A scroll in a law: with the law's own blocks beside it. -/
import Derived.Test.YtoapibbbooongaaDoorScrH
import Derived.Test.YtoapibbbooongaaDoorScrN
import Derived.Test.YtoapibbbooongaaDoorScrO
namespace Go.Proofs.YtoapibbbooongaaDoor
open Go.RowKit Go.Quad _root_.Quad _root_.Quad.Slab _root_.Quad.Ink

/-- what X holds stays whole -/
def KeepX (X : Nat → Prop) (w w' : World) : Prop := ∃ S, Chg S w w' ∧ ∀ k ∈ S, ¬ X k
theorem KeepX.below {w w' : World} (X : Nat → Prop) (hb : Below w.heap.size w w') : KeepX X w w' := ⟨[], Chg.of_below _ hb, by simp⟩
theorem KeepX.trans {X : Nat → Prop} {w w1 w2 : World} (h : KeepX X w w1) (h2 : KeepX X w1 w2) : KeepX X w w2 := by
  obtain ⟨S, hc, hS⟩ := h
  obtain ⟨T, hd, hT⟩ := h2
  refine ⟨S ++ T, (hc.mono fun k hk => .inl (List.mem_append_left _ hk)).trans (hd.mono fun k hk => .inl (List.mem_append_right _ hk)), fun k hk => ?_⟩
  rcases List.mem_append.1 hk with hk | hk
  · exact hS k hk
  · exact hT k hk
theorem KeepX.tx {X : Nat → Prop} {w w' : World} {v : Value} {p : Bytes} (h : KeepX X w w') (ht : TX w X v p) : TX w' X v p := let ⟨_, hc, hS⟩ := h; ht.keep hc hS fun _ h => h
theorem KeepX.bl {X : Nat → Prop} {w w' : World} {v : Value} {l : List Bytes} (h : KeepX X w w') (ht : BL w X v l) : BL w' X v l := let ⟨_, hc, hS⟩ := h; ht.keep hc hS fun _ h => h
/-- a scroll that was made since w0, and a law's own blocks X beside it -/
def LSc (w0 : World) (X : Nat → Prop) (g q : Nat) (c : Scr) (w : World) : Prop :=
  Below w0.heap.size w0 w ∧ (∀ x, X x → w0.heap.size ≤ x ∧ x < w.heap.size) ∧ ∃ d wv Q sv rv ts, ScAt w w0.heap.size g d wv q Q sv rv ts c ∧ ∀ x, X x → x ∉ scS g d wv q rv ∧ ¬ Q x
/-- a slab that was made since w0, and a law's own blocks X beside it -/
def LSl (w0 : World) (X : Nat → Prop) (g : Nat) (s : Sl) (w : World) : Prop :=
  Below w0.heap.size w0 w ∧ (∀ x, X x → w0.heap.size ≤ x ∧ x < w.heap.size) ∧ ∃ d wv, IsSlab w w0.heap.size g d wv s ∧ ∀ x, X x → x ∉ slS g d wv
theorem LSc.sl {w0 w : World} {X : Nat → Prop} {g q : Nat} {c : Scr} (h : LSc w0 X g q c w) : LSl w0 X g c.sl w := by
  obtain ⟨h1, h2, d, wv, Q, sv, rv, ts, h3, h4⟩ := h
  exact ⟨h1, h2, d, wv, h3.slab, fun x hx hm => (h4 x hx).1 (by unfold scS; exact List.mem_append_left _ hm)⟩
theorem LSl.of {w0 w : World} {g : Nat} {s : Sl} (h : SA w0 g s w) : LSl w0 (fun _ => False) g s w := by
  obtain ⟨⟨d, wv, h1⟩, h2⟩ := h
  exact ⟨h2, fun _ h => h.elim, d, wv, h1, fun _ h => h.elim⟩
theorem LSl.sa {w0 w : World} {X : Nat → Prop} {g : Nat} {s : Sl} (h : LSl w0 X g s w) : SA w0 g s w := by
  obtain ⟨h1, _, d, wv, h3, _⟩ := h
  exact ⟨⟨d, wv, h3⟩, h1⟩
theorem LSc.more {w0 w w' : World} {X X' : Nat → Prop} {g q : Nat} {c : Scr} (h : LSc w0 X g q c w) (hb : Below w.heap.size w w') (hX : ∀ x, X' x → X x ∨ (w.heap.size ≤ x ∧ x < w'.heap.size)) : LSc w0 X' g q c w' := by
  obtain ⟨h1, h2, d, wv, Q, sv, rv, ts, h3, h4⟩ := h
  refine ⟨h1.trans (hb.mono h1.size), fun x hx => ?_, d, wv, Q, sv, rv, ts, h3.below hb, fun x hx => ?_⟩
  · rcases hX x hx with h | h
    · exact ⟨(h2 x h).1, Nat.lt_of_lt_of_le (h2 x h).2 hb.size⟩
    · exact ⟨Nat.le_trans h1.size h.1, h.2⟩
  · rcases hX x hx with h | h
    · exact h4 x h
    · refine ⟨fun hm => ?_, fun hq => by have := (h3.scr.inQ x hq).2; omega⟩
      rcases scS_mem hm with hm | hm | hm
      · have := (h3.slab.in_ge x hm).2; omega
      · have := h3.scr.own.lt; omega
      · have := (h3.scr.row.ownBlock x hm).2; omega
theorem LSc.below {w0 w w' : World} {X : Nat → Prop} {g q : Nat} {c : Scr} (h : LSc w0 X g q c w) (hb : Below w.heap.size w w') : LSc w0 X g q c w' := h.more hb fun _ h => .inl h
theorem LSc.less {w0 w : World} {X X' : Nat → Prop} {g q : Nat} {c : Scr} (h : LSc w0 X g q c w) (hX : ∀ x, X' x → X x) : LSc w0 X' g q c w := h.more (Below.refl _ _) fun x h => .inl (hX x h)
theorem LSl.more {w0 w w' : World} {X X' : Nat → Prop} {g : Nat} {s : Sl} (h : LSl w0 X g s w) (hb : Below w.heap.size w w') (hX : ∀ x, X' x → X x ∨ (w.heap.size ≤ x ∧ x < w'.heap.size)) : LSl w0 X' g s w' := by
  obtain ⟨h1, h2, d, wv, h3, h4⟩ := h
  refine ⟨h1.trans (hb.mono h1.size), fun x hx => ?_, d, wv, h3.below hb, fun x hx => ?_⟩
  · rcases hX x hx with h | h
    · exact ⟨(h2 x h).1, Nat.lt_of_lt_of_le (h2 x h).2 hb.size⟩
    · exact ⟨Nat.le_trans h1.size h.1, h.2⟩
  · rcases hX x hx with h | h
    · exact h4 x h
    · intro hm; have := (h3.in_ge x hm).2; omega
theorem LSl.below {w0 w w' : World} {X : Nat → Prop} {g : Nat} {s : Sl} (h : LSl w0 X g s w) (hb : Below w.heap.size w w') : LSl w0 X g s w' := h.more hb fun _ h => .inl h
theorem LSl.other {w0 w w' : World} {X : Nat → Prop} {S : List Nat} {g : Nat} {s : Sl} (h : LSl w0 X g s w) (hc : Chg S w w') (hS : ∀ k ∈ S, X k) : LSl w0 X g s w' := by
  obtain ⟨h1, h2, d, wv, h3, h4⟩ := h
  exact ⟨h1.trans (hc.below h1.size fun k hk => (h2 k (hS k hk)).1), fun x hx => ⟨(h2 x hx).1, Nat.lt_of_lt_of_le (h2 x hx).2 hc.size⟩, d, wv, h3.chg hc fun k hk => h4 k (hS k hk), h4⟩
theorem LSc.other {w0 w w' : World} {X : Nat → Prop} {S : List Nat} {g q : Nat} {c : Scr} (h : LSc w0 X g q c w) (hc : Chg S w w') (hS : ∀ k ∈ S, X k) : LSc w0 X g q c w' := by
  obtain ⟨h1, h2, d, wv, Q, sv, rv, ts, h3, h4⟩ := h
  refine ⟨h1.trans (hc.below h1.size fun k hk => (h2 k (hS k hk)).1), fun x hx => ⟨(h2 x hx).1, Nat.lt_of_lt_of_le (h2 x hx).2 hc.size⟩, d, wv, Q, sv, rv, ts, ⟨h3.slab.chg hc fun k hk hm => (h4 k (hS k hk)).1 (by unfold scS; exact List.mem_append_left _ hm), h3.scr.keep hc fun k hk => ⟨fun e => (h4 k (hS k hk)).1 (by unfold scS; rw [e]; simp), (h4 k (hS k hk)).2, fun e => (h4 k (hS k hk)).1 (by unfold scS; simp [e])⟩, h3.apart⟩, h4⟩
/-- what a call leaves, for the law -/
theorem ScTo.ls {w0 w w' : World} {X : Nat → Prop} {g d : Nat} {wv : Value} {q : Nat} {Q : Nat → Prop} {sv rv : Value} {ts : List TS} {c c' : Scr} {r : Nat} {e : Ending} (hb : Below w0.heap.size w0 w) (hX : ∀ x, X x → w0.heap.size ≤ x ∧ x < w.heap.size) (h : ScAt w w0.heap.size g d wv q Q sv rv ts c) (hno : ∀ x, X x → x ∉ scS g d wv q rv ∧ ¬ Q x) (ht : ScTo w w0.heap.size g d wv q Q rv c' r e w') :
    e = .returned (.int .i64 (r : Int)) ∧ LSc w0 X g q c' w' ∧ KeepX X w w' := by
  obtain ⟨e1, wv', Q', sv', rv', ts', h1, h2, h3, h4⟩ := ht
  refine ⟨e1, ⟨hb.trans (h2.below hb.size fun k hk => ?_), fun x hx => ⟨(hX x hx).1, Nat.lt_of_lt_of_le (hX x hx).2 h2.size⟩, d, wv', Q', sv', rv', ts', h1, fun x hx => ⟨fun hm => ?_, fun hq => ?_⟩⟩, _, h2, fun k hk hx => (hno k hx).1 hk⟩
  · rcases scS_mem hk with h | rfl | h
    · exact ((by assumption : ScAt w w0.heap.size g d wv q Q sv rv ts c).slab.in_ge k h).1
    · exact (by assumption : ScAt w w0.heap.size g d wv k Q sv rv ts c).scr.ge
    · exact ((by assumption : ScAt w w0.heap.size g d wv q Q sv rv ts c).scr.row.ownBlock k h).1
  · rcases h3 x hm with h5 | h5
    · exact (hno x hx).1 h5
    · have := (hX x hx).2; omega
  · rcases h4 x hq with h5 | h5
    · exact (hno x hx).2 h5
    · have := (hX x hx).2; omega
theorem lsc_add (w0 w : World) (X : Nat → Prop) (g q : Nat) (c : Scr) (a : Option Addr) (n cc : Nat) (l : List Bytes) (h : LSc w0 X g q c w) (hl : BL w X (.slice a n cc) l) (hok : LsOk l) (hfew : c.recs.length + l.length ≤ 1000000) (hq : Laid w0) (hst : c.sl.steps + 5000 < 1000000) (hw : c.sl.way.length + 5000 < 1000000) :
    Calls Tryd.prog 40 #[.pointer (some ⟨q, 0, none⟩), .slice a n cc] w fun e w' => e = .returned (.int .i64 ((addS c l).2 : Int)) ∧ LSc w0 X g q (addS c l).1 w' ∧ KeepX X w w' := by
  obtain ⟨h1, h2, d, wv, Q, sv, rv, ts, h3, h4⟩ := h
  exact (add_calls w w0.heap.size g d wv q Q sv rv ts c X a n cc l h3 hl (fun k hk => ⟨(h2 k hk).2, (h4 k hk).1⟩) hok hfew (hq.below h1 hq.1) hq.1 hst hw).mono fun e w' ht => ScTo.ls h1 h2 h3 h4 ht
theorem lsc_comp (w0 w : World) (X : Nat → Prop) (g q : Nat) (c : Scr) (a : Option Addr) (n cc : Nat) (p : Bytes) (h : LSc w0 X g q c w) (hp : BS w a cc p) (hn : p.length = n) (hQ : InQ X a) (hl : n ≤ 50000) (hq : Laid w0) (hst : c.sl.steps + 6000 < 1000000) (hw : c.sl.way.length + 6000 < 1000000) :
    Calls Tryd.prog 42 #[.pointer (some ⟨q, 0, none⟩), .slice a n cc] w fun e w' => e = .returned (.int .i64 ((compS c p).2 : Int)) ∧ LSc w0 X g q (compS c p).1 w' ∧ KeepX X w w' := by
  obtain ⟨h1, h2, d, wv, Q, sv, rv, ts, h3, h4⟩ := h
  exact (comp_calls w w0.heap.size g d wv q Q sv rv ts c X a n cc p h3 hp hn (hQ.mono fun k hk => ⟨(h2 k hk).2, (h4 k hk).1⟩) hl (hq.below h1 hq.1) hq.1 hst hw).mono fun e w' ht => ScTo.ls h1 h2 h3 h4 ht
theorem lsc_left (w0 w : World) (X : Nat → Prop) (g q : Nat) (c : Scr) (h : LSc w0 X g q c w) : Calls Tryd.prog 37 #[.pointer (some ⟨q, 0, none⟩)] w fun e w' => e = .returned (.int .i64 ((c.size - c.next : Nat) : Int)) ∧ Below w.heap.size w w' := by
  obtain ⟨h1, h2, d, wv, Q, sv, rv, ts, h3, h4⟩ := h
  exact leftS_calls w w0.heap.size g q Q sv rv ts c h3.scr
theorem lsc_epoch (w0 w : World) (X : Nat → Prop) (g q : Nat) (c : Scr) (h : LSc w0 X g q c w) : Calls Tryd.prog 32 #[.pointer (some ⟨q, 0, none⟩)] w fun e w' => e = .returned (.int .u32 (c.root.epoch : Int)) ∧ w = w' := by
  obtain ⟨h1, h2, d, wv, Q, sv, rv, ts, h3, h4⟩ := h
  exact epoch_calls w w0.heap.size g q Q sv rv ts c h3.scr
theorem lsc_snap (w0 w : World) (X : Nat → Prop) (g q : Nat) (c : Scr) (h : LSc w0 X g q c w) : Calls Tryd.prog 34 #[.pointer (some ⟨q, 0, none⟩)] w (RetB w.heap.size w c.snap) := by
  obtain ⟨h1, h2, d, wv, Q, sv, rv, ts, h3, h4⟩ := h
  exact snap_calls w w0.heap.size g q Q sv rv ts c h3.scr
theorem lsc_recs (w0 w : World) (X : Nat → Prop) (g q : Nat) (c : Scr) (h : LSc w0 X g q c w) : Calls Tryd.prog 36 #[.pointer (some ⟨q, 0, none⟩)] w (CopiesTo w c.recs) := by
  obtain ⟨h1, h2, d, wv, Q, sv, rv, ts, h3, h4⟩ := h
  exact recs_calls w w0.heap.size g q Q sv rv ts c h3.scr
theorem LSl.to {w0 w w' : World} {X : Nat → Prop} {g d r : Nat} {wv : Value} {s s' : Sl} {e : Ending} (h1 : Below w0.heap.size w0 w) (h2 : ∀ x, X x → w0.heap.size ≤ x ∧ x < w.heap.size) (h3 : IsSlab w w0.heap.size g d wv s) (h4 : ∀ x, X x → x ∉ slS g d wv) (ht : SlabTo w w0.heap.size g d wv s' r e w') :
    e = .returned (.int .i64 (r : Int)) ∧ LSl w0 X g s' w' ∧ KeepX X w w' := by
  obtain ⟨wv', e1, q1, q2, q3⟩ := ht
  refine ⟨e1, ⟨h1.trans (q2.below h1.size fun k hk => (h3.in_ge k hk).1), fun x hx => ⟨(h2 x hx).1, Nat.lt_of_lt_of_le (h2 x hx).2 q2.size⟩, d, wv', q1, fun x hx hm => ?_⟩, _, q2, fun k hk hx => h4 k hx hk⟩
  have : x ∈ slS g d wv ∨ w.heap.size ≤ x := by
    rcases slS_mem hm with e | e | hk
    · exact .inl (by simp [slS, e])
    · exact .inl (by simp [slS, e])
    · exact q3 x hk
  rcases this with h | h
  · exact h4 x hx h
  · have := (h2 x hx).2; omega
theorem lsl_format (w0 w : World) (X : Nat → Prop) (g : Nat) (s : Sl) (size : Int) (a : Option Addr) (n cc : Nat) (p : Bytes) (h : LSl w0 X g s w) (hz : -9223372036854775808 ≤ size ∧ size ≤ 9223372036854775807) (hl : s.done.length ≤ 100000) (hp : BS w a cc p) (hn : p.length = n) (hQ : ∀ x, a = some x → x.block < w.heap.size) (hn5 : n ≤ 50000) (hq : Laid w0) (hst : s.steps + 6000 < 1000000) (hw : s.way.length + 6000 < 1000000) :
    Calls Tryd.prog 38 #[.pointer (some ⟨g, 0, none⟩), .int .i64 size, .slice a n cc] w fun e w' => e = .returned (.int .i64 ((formatS s size p).2 : Int)) ∧ LSl w0 X g (formatS s size p).1 w' ∧ KeepX X w w' := by
  obtain ⟨h1, h2, d, wv, h3, h4⟩ := h
  exact (sformat_calls w w0.heap.size g d wv s size a n cc p h3 hz hl hp hn hQ hn5 (hq.below h1 hq.1) hq.1 hst hw).mono fun e w' ht => LSl.to h1 h2 h3 h4 ht
theorem openS_sl {s s' : Sl} {size : Int} {c : Scr} {r : Nat} (h : openS s size = (s', some c, r)) : c.sl = s' ∧ r = 0 := by
  unfold openS at h
  repeat' split at h
  all_goals simp only [Prod.mk.injEq, reduceCtorEq, false_and, and_false, Option.some.injEq] at h
  obtain ⟨h1, h2, h3⟩ := h
  exact ⟨by rw [← h2]; exact h1, h3.symm⟩
theorem lsl_open (w0 w : World) (X : Nat → Prop) (g : Nat) (s : Sl) (size : Int) (h : LSl w0 X g s w) (hz : -9223372036854775808 ≤ size ∧ size ≤ 9223372036854775807) (hl : s.done.length ≤ 100000) (hq : Laid w0) (hst : s.steps + 10 < 1000000) (hw : s.way.length + 10 < 1000000) (s' : Sl) (c : Scr) (ho : openS s size = (s', some c, 0)) :
    Calls Tryd.prog 29 #[.pointer (some ⟨g, 0, none⟩), .int .i64 size] w fun e w' => ∃ q, e = .returned (.tuple #[.pointer (some ⟨q, 0, none⟩), .int .i64 0]) ∧ LSc w0 X g q c w' ∧ KeepX X w w' := by
  obtain ⟨h1, h2, d, wv, h3, h4⟩ := h
  refine (sopen_calls w w0.heap.size g d wv s size h3 hz hl (hq.below h1 hq.1) hq.1 hst hw).mono fun e w' ht => ?_
  rw [ho] at ht
  obtain ⟨wv', q2, q3, q, Q, sv, rv, ts, e1, q4, q5, q6, q7⟩ := ht
  refine ⟨q, e1, ⟨h1.trans (q2.below h1.size fun k hk => (h3.in_ge k hk).1), fun x hx => ⟨(h2 x hx).1, Nat.lt_of_lt_of_le (h2 x hx).2 q2.size⟩, d, wv', Q, sv, rv, ts, q4, fun x hx => ⟨fun hm => ?_, fun hQ => ?_⟩⟩, _, q2, fun k hk hx => h4 k hx hk⟩
  · rcases scS_mem hm with hm | hm | hm
    · rcases q3 x hm with h | h
      · exact h4 x hx h
      · have := (h2 x hx).2; omega
    · have := (h2 x hx).2; omega
    · have := (h2 x hx).2; have := q7 x hm; omega
  · have := (h2 x hx).2; have := q6 x hQ; omega
/-! the plain law of what lies, for the code's scroll -/
def scD (s : Sl) (size : Nat) (r : RootD) (bs : List Bat) : Scr := ⟨s, size, r, lenB bs, ((bs.map Prod.snd).headD []).headD [], ((bs.map Prod.snd).drop 1).flatten, false⟩
theorem scD_more {s s' : Sl} {size : Nat} {r : RootD} {bs : List Bat} {e : Nat} {l : List Bytes} (h : bs ≠ []) : scD s' size r (bs ++ [(e, l)]) = { scD s size r bs with sl := s', next := lenB bs + partsL l, recs := (scD s size r bs).recs ++ l } := by
  obtain ⟨b, bs', rfl⟩ : ∃ b bs', bs = b :: bs' := by cases bs with
    | nil => exact absurd rfl h
    | cons b bs' => exact ⟨b, bs', rfl⟩
  unfold scD
  rw [lenB_append]
  simp [lenB]
theorem Dk.ne {s : Sl} {size : Nat} {r : RootD} {bs : List Bat} (h : Dk s size r bs) : bs ≠ [] := by
  obtain ⟨e, p, bs', rfl⟩ := h.first
  simp
theorem Dk.scAdd {s : Sl} {size : Nat} {r : RootD} {bs : List Bat} (h : Dk s size r bs) {l : List Bytes} (hl : l.length ≠ 0) (hs : ∀ t ∈ l, t.length < 18446744073709551616) (hfit : lenB bs + partsL l ≤ size) :
    ∃ s', addS (scD s size r bs) l = (scD s' size r (bs ++ [(r.epoch, l)]), 0) ∧ Dk s' size r (bs ++ [(r.epoch, l)]) ∧ s'.way = [] ∧ s'.done.length = s.done.length ∧ s'.steps = s.steps + partsL l + 1 := by
  obtain ⟨s', h1, h2, h3, h4, h5⟩ := h.add hs hfit
  refine ⟨s', ?_, h2, h3, h4, h5⟩
  rw [scD_more (s := s) h.ne]
  unfold addS
  rw [show (scD s size r bs).down = false from rfl, show (scD s size r bs).sl = s from rfl, h.q.on, if_neg (by simp), if_neg hl, if_neg (by show ¬ size - lenB bs < partsL l; omega)]
  rw [show putS s (scD s size r bs).size (scD s size r bs).root (scD s size r bs).next (joinL l) = (s', 0) from h1, if_neg (by simp)]
  rfl
theorem Dk.scNone {s : Sl} {size : Nat} {r : RootD} {bs : List Bat} (h : Dk s size r bs) {l : List Bytes} (hl : l.length = 0) : addS (scD s size r bs) l = (scD s size r bs, 1) := by
  unfold addS
  rw [show (scD s size r bs).down = false from rfl, show (scD s size r bs).sl = s from rfl, h.q.on, if_neg (by simp), if_pos hl]
theorem Dk.scFull {s : Sl} {size : Nat} {r : RootD} {bs : List Bat} (h : Dk s size r bs) {l : List Bytes} (hl : l.length ≠ 0) (hfit : size - lenB bs < partsL l) : addS (scD s size r bs) l = (scD s size r bs, 8) := by
  unfold addS
  rw [show (scD s size r bs).down = false from rfl, show (scD s size r bs).sl = s from rfl, h.q.on, if_neg (by simp), if_neg hl, if_pos (show (scD s size r bs).size - (scD s size r bs).next < partsL l from hfit)]
theorem Dk.scComp {s : Sl} {size : Nat} {r : RootD} {bs : List Bat} (h : Dk s size r bs) {p : Bytes} (hs : p.length < 18446744073709551616) (hfit : partsL [p] ≤ size) (hg : r.gen ≠ 4294967295) (ht : r.turn ≠ 4294967295) :
    ∃ s', compS (scD s size r bs) p = (scD s' size (turnR r) [(r.epoch, [p])], 0) ∧ Dk s' size (turnR r) [(r.epoch, [p])] ∧ s'.way = [] ∧ s'.done.length = s.done.length ∧ s'.steps = s.steps + partsL [p] + 3 := by
  obtain ⟨s1, s', h1, h2, h3, h4, h5, h6⟩ := h.comp hs hfit hg ht
  refine ⟨s', ?_, h3, h4, h5, h6⟩
  unfold compS
  rw [show (scD s size r bs).down = false from rfl, show (scD s size r bs).sl = s from rfl, h.q.on, if_neg (by simp), if_neg (by show ¬ (size < partsL [p] ∨ r.gen = 4294967295 ∨ r.turn = 4294967295); omega)]
  rw [show (scD s size r bs).size = size from rfl, show (scD s size r bs).root = r from rfl, h1, thenS_ok, h2, if_neg (by simp)]
  rfl
theorem Dk.scCompFull {s : Sl} {size : Nat} {r : RootD} {bs : List Bat} (h : Dk s size r bs) {p : Bytes} (hfit : size < partsL [p]) : compS (scD s size r bs) p = (scD s size r bs, 8) := by
  unfold compS
  rw [show (scD s size r bs).down = false from rfl, show (scD s size r bs).sl = s from rfl, h.q.on, if_neg (by simp), if_pos (show (scD s size r bs).size < partsL [p] ∨ (scD s size r bs).root.gen = 4294967295 ∨ (scD s size r bs).root.turn = 4294967295 from .inl hfit)]
theorem Dk.scOpen {s : Sl} {size : Nat} {r : RootD} {bs : List Bat} (h : Dk s size r bs) (he : r.epoch ≠ 4294967295) (ht : r.turn ≠ 4294967295) :
    ∃ s', openS s (size : Int) = (s', some (scD s' size (nextR r) bs), 0) ∧ Dk s' size (nextR r) bs ∧ s'.way = [] ∧ s'.done.length = s.done.length ∧ s'.steps = s.steps + 2 := h.open' he ht
end Go.Proofs.YtoapibbbooongaaDoor
