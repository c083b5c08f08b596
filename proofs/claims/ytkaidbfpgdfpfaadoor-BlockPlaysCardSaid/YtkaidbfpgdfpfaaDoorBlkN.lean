/- A slab and blocks of the walk's own beside it; rows of roots. -/
import Derived.Test.YtkaidbfpgdfpfaaDoorBlkL
import Derived.Test.YtkaidbfpgdfpfaaDoorPlA
namespace Go.Proofs.YtkaidbfpgdfpfaaDoor
open Go.RowKit Go.Quad _root_.Quad _root_.Quad.Slab

def SX (w0 : World) (g : Nat) (s : Sl) (X : List Nat) (w : World) : Prop :=
  (∃ d wv, IsSlab w w0.heap.size g d wv s ∧ ∀ x ∈ X, (w0.heap.size ≤ x ∧ x < w.heap.size) ∧ x ∉ slS g d wv) ∧ Below w0.heap.size w0 w
theorem SX.sa {w0 w : World} {g : Nat} {s : Sl} {X : List Nat} (h : SX w0 g s X w) : SA w0 g s w := by
  obtain ⟨⟨d, wv, h1, _⟩, h2⟩ := h
  exact ⟨⟨d, wv, h1⟩, h2⟩
theorem SX.of {w0 w : World} {g : Nat} {s : Sl} (h : SA w0 g s w) : SX w0 g s [] w := by
  obtain ⟨⟨d, wv, h1⟩, h2⟩ := h
  exact ⟨⟨d, wv, h1, fun x hx => by simp at hx⟩, h2⟩
theorem SX.below {w0 w w' : World} {g : Nat} {s : Sl} {X : List Nat} (h : SX w0 g s X w) (hb : Below w.heap.size w w') : SX w0 g s X w' := by
  obtain ⟨⟨d, wv, h1, h3⟩, h2⟩ := h
  exact ⟨⟨d, wv, h1.below hb, fun x hx => ⟨⟨(h3 x hx).1.1, Nat.lt_of_lt_of_le (h3 x hx).1.2 hb.size⟩, (h3 x hx).2⟩⟩, h2.trans (hb.mono h2.size)⟩
theorem SX.new {w0 w : World} {g : Nat} {s : Sl} {X : List Nat} (h : SX w0 g s X w) (o : Obj) : SX w0 g s (w.heap.size :: X) (w.alloc o) := by
  have q := h.2.size
  obtain ⟨⟨d, wv, h1, h3⟩, h2⟩ := h
  have hb := below_alloc w o
  refine ⟨⟨d, wv, h1.below hb, fun x hx => ?_⟩, h2.trans (hb.mono h2.size)⟩
  rcases List.mem_cons.1 hx with rfl | hx
  · exact ⟨⟨q, by simp⟩, fun hm => by have := (h1.in_ge _ hm).2; omega⟩
  · exact ⟨⟨(h3 x hx).1.1, Nat.lt_of_lt_of_le (h3 x hx).1.2 hb.size⟩, (h3 x hx).2⟩
theorem SX.chg {w0 w w' : World} {g : Nat} {s : Sl} {X S : List Nat} (h : SX w0 g s X w) (hc : Chg S w w') (hS : ∀ x ∈ S, x ∈ X) : SX w0 g s X w' := by
  obtain ⟨⟨d, wv, h1, h3⟩, h2⟩ := h
  exact ⟨⟨d, wv, h1.chg hc (fun k hk => (h3 k (hS k hk)).2), fun x hx => ⟨⟨(h3 x hx).1.1, Nat.lt_of_lt_of_le (h3 x hx).1.2 hc.size⟩, (h3 x hx).2⟩⟩, h2.trans (hc.below h2.size fun k hk => (h3 k (hS k hk)).1.1)⟩
theorem SX.to {w0 w w' : World} {g d r : Nat} {wv : Value} {s s' : Sl} {X : List Nat} {e : Ending} (h1 : IsSlab w w0.heap.size g d wv s) (h3 : ∀ x ∈ X, (w0.heap.size ≤ x ∧ x < w.heap.size) ∧ x ∉ slS g d wv) (hb : Below w0.heap.size w0 w)
    (ht : SlabTo w w0.heap.size g d wv s' r e w') : e = .returned (.int .i64 (r : Int)) ∧ SX w0 g s' X w' ∧ XKeep X w w' := by
  obtain ⟨wv', rfl, q1, q2, q3⟩ := ht
  refine ⟨rfl, ⟨⟨d, wv', q1, fun x hx => ⟨⟨(h3 x hx).1.1, Nat.lt_of_lt_of_le (h3 x hx).1.2 q2.size⟩, fun hm => ?_⟩⟩, hb.trans (q2.below hb.size fun k hk => (h1.in_ge k hk).1)⟩, XKeep.of_chg q2 fun x hx => ⟨(h3 x hx).1.2, (h3 x hx).2⟩⟩
  simp only [slS, List.mem_cons] at hm
  rcases hm with rfl | rfl | hm
  · exact (h3 _ hx).2 (by simp [slS])
  · exact (h3 _ hx).2 (by simp [slS])
  · rcases q3 x (by simpa using hm) with h | h
    · exact (h3 _ hx).2 h
    · have := (h3 x hx).1.2; omega
def SxTo (w0 : World) (g : Nat) (X : List Nat) (w : World) (p : Sl × Nat) (e : Ending) (w' : World) : Prop := e = .returned (.int .i64 (p.2 : Int)) ∧ SX w0 g p.1 X w' ∧ XKeep X w w'
theorem sx_store (w0 w : World) (g : Nat) (s : Sl) (X : List Nat) (r : RootD) (h : SX w0 g s X w) (hr : r.Ok) (hq : Laid w) (hs : s.steps + 1 < 1000000) (hw : s.way.length < 1000000) :
    Calls Tryd.prog 26 #[.pointer (some ⟨g, 0, none⟩), .agg #[.int .u32 (r.turn : Int), .int .u32 (r.epoch : Int), .int .u32 (r.gen : Int), .int .u8 (r.area : Int)]] w (SxTo w0 g X w (storeB s r)) := by
  obtain ⟨⟨d, wv, h1, h3⟩, h2⟩ := h
  exact (store_calls w w0.heap.size g d wv s r h1 hr hq hs hw).mono fun e w' ht => SX.to h1 h3 h2 ht
theorem sx_arm (w0 w : World) (g : Nat) (s : Sl) (X : List Nat) (n : Int) (h : SX w0 g s X w) (hn : n ≤ 9223372036854775807) :
    Calls Tryd.prog 35 #[.pointer (some ⟨g, 0, none⟩), .int .i64 n] w (SxTo w0 g X w (armL s n)) := by
  obtain ⟨⟨d, wv, h1, h3⟩, h2⟩ := h
  refine (arm_calls w _ g d wv s n h1 hn).mono ?_
  rintro e w' ⟨rfl, h4, hc⟩
  exact SX.to h1 h3 h2 ⟨wv, rfl, h4, hc.mono (by intro k hk; simp at hk; subst hk; exact .inl (by simp [slS])), fun k hk => .inl (by simp [slS, hk])⟩
theorem sx_crash (w0 w : World) (g : Nat) (s : Sl) (X : List Nat) (a : Option Addr) (cap : Nat) (fates : List UInt8) (cut : Int) (h : SX w0 g s X w) (hf : BS w a cap fates) (hoff : OffS w0 w g a fates) (hcut : -9223372036854775808 ≤ cut ∧ cut ≤ 9223372036854775807) :
    Calls Tryd.prog 33 #[.pointer (some ⟨g, 0, none⟩), .slice a fates.length cap, .int .i64 cut] w (SxTo w0 g X w (crashL s fates cut, 0)) := by
  obtain ⟨⟨d, wv, h1, h3⟩, h2⟩ := h
  refine (crash_calls w _ g d wv s a cap fates cut h1 hf ?_ hcut).mono fun e w' ht => SX.to h1 h3 h2 ht
  refine hoff.imp id fun hoff x hx hm => ?_
  rcases hoff x hx with h | h
  · have := (h1.in_ge _ hm).1; omega
  · exact h d wv s h1 hm

/-! rows of roots -/
theorem root_cells {w : World} {cs : List Value} (hl : cs.length = 4) (hr : RC Tryd.prog w 61 cs) : ∃ r, cs = rootV r ∧ r.Ok := by
  obtain ⟨x0, x1, x2, x3, rfl⟩ := lst4 hl
  obtain ⟨z0, e0, w0⟩ := (hr.fld Tryd.underlying61 0 29 0 1 (by kernel_rfl) (by kernel_rfl)).int Tryd.underlying29
  obtain ⟨z1, e1, w1⟩ := (hr.fld Tryd.underlying61 1 29 1 1 (by kernel_rfl) (by kernel_rfl)).int Tryd.underlying29
  obtain ⟨z2, e2, w2⟩ := (hr.fld Tryd.underlying61 2 29 2 1 (by kernel_rfl) (by kernel_rfl)).int Tryd.underlying29
  obtain ⟨z3, e3, w3⟩ := (hr.fld Tryd.underlying61 3 5 3 1 (by kernel_rfl) (by kernel_rfl)).int under_u8
  obtain ⟨k0, rfl, u0⟩ := un32 w0
  obtain ⟨k1, rfl, u1⟩ := un32 w1
  obtain ⟨k2, rfl, u2⟩ := un32 w2
  obtain ⟨k3, rfl, u3⟩ := un8 w3
  simp only [List.drop_zero, List.drop_succ_cons, List.take_succ_cons, List.take_zero, List.cons.injEq, and_true] at e0 e1 e2 e3
  subst e0 e1 e2 e3
  exact ⟨⟨k0, k1, k2, k3⟩, rfl, ⟨u0, u1, u2, u3⟩⟩
theorem rootV_length (r : RootD) : (rootV r).length = 4 := rfl
theorem roots_open {w : World} {v : Value} (h : RV Tryd.prog w 81 v) :
    ∃ (a : Option Addr) (cap : Nat) (l : List RootD), v = .slice a l.length cap ∧ (∀ r ∈ l, r.Ok) ∧ CS w a cap 4 (l.flatMap rootV) ∧ l.length ≤ cap := by
  obtain ⟨a, cap, E, rfl, hE, hl, hc⟩ := h.slice Tryd.underlying81 4 (by kernel_rfl) (by decide)
  have key : ∀ E : List (List Value), (∀ x ∈ E, x.length = 4 ∧ RC Tryd.prog w 61 x) → ∃ l : List RootD, l.length = E.length ∧ E.flatten = l.flatMap rootV ∧ ∀ r ∈ l, r.Ok := by
    intro E
    induction E with
    | nil => intro _; exact ⟨[], rfl, rfl, by simp⟩
    | cons x E ih =>
      intro h
      obtain ⟨l, h1, h2, h3⟩ := ih fun y hy => h y (List.mem_cons_of_mem _ hy)
      obtain ⟨o, ho, hok⟩ := root_cells (h x (List.mem_cons_self ..)).1 (h x (List.mem_cons_self ..)).2
      exact ⟨o :: l, by simp [h1], by rw [List.flatten_cons, h2, ho, List.flatMap_cons], fun q hq => by
        rcases List.mem_cons.1 hq with rfl | hq
        · exact hok
        · exact h3 q hq⟩
  obtain ⟨l, h1, h2, h3⟩ := key E hE
  rw [h2] at hc
  rw [← h1] at hl ⊢
  exact ⟨a, cap, l, rfl, h3, hc, hl⟩
/-! two roots compared -/
def rootEq (r q : RootD) : Bool := decide (r.turn = q.turn) && decide (r.epoch = q.epoch) && decide (r.gen = q.gen) && decide (r.area = q.area)
theorem rootEq_self (r : RootD) : rootEq r r = true := by simp [rootEq]
theorem eqg_root (r q : RootD) (x y : Tmp) (w : World) : (eqGuard .eql 67 (.tmp x) (.tmp y) (.agg (rootV r).toArray) (.agg (rootV q).toArray)).run Tryd.prog w = .ok () w := by
  simp only [rootV]
  go_simp
theorem eq_root (r q : RootD) (w : World) : (binOp .eql 67 (.agg (rootV r).toArray) (.agg (rootV q).toArray)).run Tryd.prog w = .ok (.bool (rootEq r q)) w := by
  simp only [rootV, rootEq]
  go_simp
  have h1 : ((r.turn : Int) = q.turn) = (r.turn = q.turn) := propext (by omega)
  have h2 : ((r.epoch : Int) = q.epoch) = (r.epoch = q.epoch) := propext (by omega)
  have h3 : ((r.gen : Int) = q.gen) = (r.gen = q.gen) := propext (by omega)
  have h4 : ((r.area : Int) = q.area) = (r.area = q.area) := propext (by omega)
  simp only [h1, h2, h3, h4]
  by_cases c1 : r.turn = q.turn
  · by_cases c2 : r.epoch = q.epoch
    · by_cases c3 : r.gen = q.gen
      · by_cases c4 : r.area = q.area
        · simp [c1, c2, c3, c4]
        · simp [c1, c2, c3, c4]
      · simp [c1, c2, c3]
    · simp [c1, c2]
  · simp [c1]
theorem SX.less {w0 w : World} {g : Nat} {s : Sl} {X Y : List Nat} (h : SX w0 g s X w) (hY : ∀ y ∈ Y, y ∈ X) : SX w0 g s Y w := by
  obtain ⟨⟨d, wv, h1, h3⟩, h2⟩ := h
  exact ⟨⟨d, wv, h1, fun x hx => h3 x (hY x hx)⟩, h2⟩
end Go.Proofs.YtkaidbfpgdfpfaaDoor
