/- A slab and the document's, side by side: blocks and roots; and the scripts of layer 6. -/
import Derived.Test.YtkaidbfpgdfpfaaDoorBlkK
import Derived.Test.YtkaidbfpgdfpfaaDoorBlkN
import Derived.Test.YtkaidbfpgdfpfaaDoorPlA
namespace Go.Proofs.YtkaidbfpgdfpfaaDoor
open Go.RowKit Go.Quad _root_.Quad _root_.Quad.Slab

theorem pl_bput {wn w : World} {B2 g d g2 dn dc : Nat} {X : List Nat} {s1 s2 : Sl} (h : Pl wn B2 g d g2 dn dc X s1 s2 w) (i : Int) (a : Option Addr) (n c : Nat) (x : BlkD) (hi : -9223372036854775808 ≤ i ∧ i ≤ 9223372036854775807) (hx : x.Ok)
    (hd : BS w a c x.data) (hn : x.data.length = n) (hq : Laid wn) (hs : s1.steps < 1000000) (hw : s1.way.length < 1000000) :
    Calls Tryd.prog 21 #[.pointer (some ⟨g, 0, none⟩), .int .i64 i, .agg #[.int .u8 (x.kind : Int), .int .u32 (x.epoch : Int), .int .u32 (x.a : Int), .int .u32 (x.b : Int), .slice a n c]] w fun e w' => e = .returned (.int .i64 ((putB s1 i x).2 : Int)) ∧ Pl wn B2 g d g2 dn dc X (putB s1 i x).1 s2 w' ∧ XKeep X w w' := by
  obtain ⟨wv, F, wv2, h1, h2, h3, h4⟩ := h.ex
  exact (put_any w _ g d wv s1 i a n c x h1 hi hx hd hn (hq.below h.bel hq.1) hs hw).mono fun e w' ht => Pl.of_slab h1 h2 h3 h4 h.bel h.b2 ht
theorem pl_rbput {wn w : World} {B2 g d g2 dn dc : Nat} {X : List Nat} {s1 s2 : Sl} (h : Pl wn B2 g d g2 dn dc X s1 s2 w) (i : Int) (a : Option Addr) (n c : Nat) (x : BlkD) (hi : -9223372036854775808 ≤ i ∧ i ≤ 9223372036854775807) (hx : x.Ok)
    (hd : BS w a c x.data) (hn : x.data.length = n) (hs : s2.steps < 1000000) (hw : s2.way.length < 1000000) :
    Calls Tryd.prog 24 #[.pointer (some ⟨g2, 0, none⟩), .int .i64 i, .agg #[.int .u8 (x.kind : Int), .int .u32 (x.epoch : Int), .int .u32 (x.a : Int), .int .u32 (x.b : Int), .slice a n c]] w fun e w' => e = .returned (.int .i64 ((putB s2 i x).2 : Int)) ∧ Pl wn B2 g d g2 dn dc X s1 (putB s2 i x).1 w' ∧ XKeep X w w' := by
  obtain ⟨wv, F, wv2, h1, h2, h3, h4⟩ := h.ex
  exact (rbput_calls w F B2 g2 dn dc wv2 s2 i a n c x h2 hi hx hd hn hs hw).mono fun e w' ht => Pl.of_rf h1 h2 h3 h4 h.bel h.b2 ht
theorem pl_store {wn w : World} {B2 g d g2 dn dc : Nat} {X : List Nat} {s1 s2 : Sl} (h : Pl wn B2 g d g2 dn dc X s1 s2 w) (r : RootD) (hr : r.Ok) (hq : Laid wn) (hs : s1.steps + 1 < 1000000) (hw : s1.way.length < 1000000) :
    Calls Tryd.prog 26 #[.pointer (some ⟨g, 0, none⟩), .agg #[.int .u32 (r.turn : Int), .int .u32 (r.epoch : Int), .int .u32 (r.gen : Int), .int .u8 (r.area : Int)]] w fun e w' => e = .returned (.int .i64 ((storeB s1 r).2 : Int)) ∧ Pl wn B2 g d g2 dn dc X (storeB s1 r).1 s2 w' ∧ XKeep X w w' := by
  obtain ⟨wv, F, wv2, h1, h2, h3, h4⟩ := h.ex
  exact (store_calls w _ g d wv s1 r h1 hr (hq.below h.bel hq.1) hs hw).mono fun e w' ht => Pl.of_slab h1 h2 h3 h4 h.bel h.b2 ht
theorem pl_rstore {wn w : World} {B2 g d g2 dn dc : Nat} {X : List Nat} {s1 s2 : Sl} (h : Pl wn B2 g d g2 dn dc X s1 s2 w) (r : RootD) (hr : r.Ok) (hs : s2.steps + 1 < 1000000) (hw : s2.way.length < 1000000) :
    Calls Tryd.prog 27 #[.pointer (some ⟨g2, 0, none⟩), .agg #[.int .u32 (r.turn : Int), .int .u32 (r.epoch : Int), .int .u32 (r.gen : Int), .int .u8 (r.area : Int)]] w fun e w' => e = .returned (.int .i64 ((storeB s2 r).2 : Int)) ∧ Pl wn B2 g d g2 dn dc X s1 (storeB s2 r).1 w' ∧ XKeep X w w' := by
  obtain ⟨wv, F, wv2, h1, h2, h3, h4⟩ := h.ex
  exact (rstore_calls w F B2 g2 dn dc wv2 s2 r h2 hr hs hw).mono fun e w' ht => Pl.of_rf h1 h2 h3 h4 h.bel h.b2 ht
theorem pl_bget {wn w : World} {B2 g d g2 dn dc : Nat} {X : List Nat} {s1 s2 : Sl} (h : Pl wn B2 g d g2 dn dc X s1 s2 w) (i : Int) (hi : -9223372036854775808 ≤ i ∧ i ≤ 9223372036854775807) (hq : Laid wn) :
    Calls Tryd.prog 12 #[.pointer (some ⟨g, 0, none⟩), .int .i64 i] w (BGetTo w (getB s1 i)) := by
  obtain ⟨wv, F, wv2, h1, h2, h3, h4⟩ := h.ex
  exact bget_calls w _ g d wv s1 i h1 hi (hq.below h.bel hq.1)
theorem pl_rbget {wn w : World} {B2 g d g2 dn dc : Nat} {X : List Nat} {s1 s2 : Sl} (h : Pl wn B2 g d g2 dn dc X s1 s2 w) (i : Int) (hi : -9223372036854775808 ≤ i ∧ i ≤ 9223372036854775807) :
    Calls Tryd.prog 25 #[.pointer (some ⟨g2, 0, none⟩), .int .i64 i] w (BGetTo w (getB s2 i)) := by
  obtain ⟨wv, F, wv2, h1, h2, h3, h4⟩ := h.ex
  exact rbget_calls w F B2 g2 dn dc wv2 s2 i h2 hi
theorem pl_load {wn w : World} {B2 g d g2 dn dc : Nat} {X : List Nat} {s1 s2 : Sl} (h : Pl wn B2 g d g2 dn dc X s1 s2 w) (hq : Laid wn) :
    Calls Tryd.prog 28 #[.pointer (some ⟨g, 0, none⟩)] w (LoadTo w (loadB s1)) := by
  obtain ⟨wv, F, wv2, h1, h2, h3, h4⟩ := h.ex
  exact load_calls w _ g d wv s1 h1 (hq.below h.bel hq.1)
theorem pl_rload {wn w : World} {B2 g d g2 dn dc : Nat} {X : List Nat} {s1 s2 : Sl} (h : Pl wn B2 g d g2 dn dc X s1 s2 w) :
    Calls Tryd.prog 29 #[.pointer (some ⟨g2, 0, none⟩)] w (LoadTo w (loadB s2)) := by
  obtain ⟨wv, F, wv2, h1, h2, h3, h4⟩ := h.ex
  exact rload_calls w F B2 g2 dn dc wv2 s2 h2

theorem Few.mono {n m : Nat} {s : Sl} (h : Few n s) (hm : n ≤ m) : Few m s := ⟨Nat.le_trans h.1 hm, Nat.le_trans h.2.1 hm, h.2.2⟩
theorem Few.put {n : Nat} {s : Sl} (h : Few n s) (i : Int) (x : BlkD) : Few (n + 1) (putB s i x).1 := by
  unfold putB
  split
  · exact h.more
  · split
    · exact h.more
    · split
      · exact h.more
      · exact h.write _ _
theorem Few.store {n : Nat} {s : Sl} (h : Few n s) (r : RootD) : Few (n + 2) (storeB s r).1 := by
  unfold storeB
  split
  · exact h.mono (by omega)
  · split
    · exact (h.put _ _).more
    · exact (h.put _ _).flush

structure BopD where
  dd : Nat
  i : Int
  x : BlkD
  a : Option Addr
  c : Nat
  r : RootD
def bopV (o : BopD) : List Value := [.int .u8 (o.dd : Int), .int .i64 o.i] ++ blkV o.x o.a o.c ++ rootV o.r
theorem bopV_length (o : BopD) : (bopV o).length = 11 := rfl
structure OkBop (w : World) (o : BopD) : Prop where
  dd : o.dd < 256
  i : -9223372036854775808 ≤ o.i ∧ o.i ≤ 9223372036854775807
  x : o.x.Ok
  bs : BS w o.a o.c o.x.data
  r : o.r.Ok
theorem bop_open {w : World} {cs : List Value} (h : RC Tryd.prog w 63 cs) : ∃ o, cs = bopV o ∧ OkBop w o := by
  have hl := h.len Tryd.underlying63
  rw [show Tryd.prog.cellsOf 63 = 11 by kernel_rfl] at hl
  obtain ⟨n, h0, w0⟩ := (h.fld Tryd.underlying63 0 5 0 1 (by kernel_rfl) (by kernel_rfl)).int Tryd.underlying5
  obtain ⟨m, h1, w1⟩ := (h.fld Tryd.underlying63 1 3 1 1 (by kernel_rfl) (by kernel_rfl)).int Tryd.underlying3
  obtain ⟨x, a, c, h2, hx, hb⟩ := blk_cells (by rw [List.length_take, List.length_drop, hl]; rfl) (h.fld Tryd.underlying63 2 34 2 5 (by kernel_rfl) (by kernel_rfl))
  obtain ⟨r, h3, hr⟩ := root_cells (by rw [List.length_take, List.length_drop, hl]; rfl) (h.fld Tryd.underlying63 3 61 7 4 (by kernel_rfl) (by kernel_rfl))
  obtain ⟨k, rfl, hk⟩ := un8 w0
  refine ⟨⟨k, m, x, a, c, r⟩, ?_, ⟨hk, bounds_i64 w1, hx, hb, hr⟩⟩
  match cs, hl with
  | [x0, x1, x2, x3, x4, x5, x6, x7, x8, x9, x10], _ =>
    simp only [List.drop_zero, List.drop_succ_cons, List.take_succ_cons, List.take_zero, List.cons.injEq, and_true, blkV, rootV] at h0 h1 h2 h3
    obtain ⟨rfl, rfl, rfl, rfl, rfl⟩ := h2
    obtain ⟨rfl, rfl, rfl, rfl⟩ := h3
    subst h0 h1
    rfl
theorem bops_open {w : World} {v : Value} (h : RV Tryd.prog w 56 v) :
    ∃ (a : Option Addr) (cap : Nat) (l : List BopD), v = .slice a l.length cap ∧ (∀ o ∈ l, OkBop w o) ∧ CS w a cap 11 (l.flatMap bopV) ∧ l.length ≤ cap := by
  obtain ⟨a, cap, E, rfl, hE, hl, hc⟩ := h.slice Tryd.underlying56 11 (by kernel_rfl) (by decide)
  have key : ∀ E : List (List Value), (∀ x ∈ E, x.length = 11 ∧ RC Tryd.prog w 63 x) → ∃ l : List BopD, l.length = E.length ∧ E.flatten = l.flatMap bopV ∧ ∀ o ∈ l, OkBop w o := by
    intro E
    induction E with
    | nil => intro _; exact ⟨[], rfl, rfl, by simp⟩
    | cons x E ih =>
      intro h
      obtain ⟨l, h1, h2, h3⟩ := ih fun y hy => h y (List.mem_cons_of_mem _ hy)
      obtain ⟨o, ho, hok⟩ := bop_open (h x (List.mem_cons_self ..)).2
      exact ⟨o :: l, by simp [h1], by rw [List.flatten_cons, h2, ho, List.flatMap_cons], fun q hq => by
        rcases List.mem_cons.1 hq with rfl | hq
        · exact hok
        · exact h3 q hq⟩
  obtain ⟨l, h1, h2, h3⟩ := key E hE
  exact ⟨a, cap, l, by rw [h1], h3, by rw [← h2]; exact hc, by omega⟩

def zbop : Array Value := #[.int .u8 0, .int .i64 0, .int .u8 0, .int .u32 0, .int .u32 0, .int .u32 0, .slice none 0 0, .int .u32 0, .int .u32 0, .int .u32 0, .int .u8 0]
theorem info_bop : (Tryd.prog.info? 63).map (fun i => (i.zero, i.size)) = some (some (.agg zbop), 11) := by kernel_rfl
theorem size_bop : (Tryd.prog.info? 63).map (·.size) = some 11 := by kernel_rfl
theorem bopV_one (o : BopD) : ∀ u ∈ bopV o, u.oneCell' = true := by
  intro u hu
  simp only [bopV, blkV, rootV, List.cons_append, List.nil_append, List.mem_cons, List.not_mem_nil, or_false] at hu
  rcases hu with rfl | rfl | rfl | rfl | rfl | rfl | rfl | rfl | rfl | rfl | rfl <;> rfl
theorem wpList_load_row {P : Program} {w : World} {ops : Array Oper} {rest : List Oper} {o : Oper} {ac : Act} {Q : Exit → Act → World → Prop}
    (t : TypeId) (x : Operand) (ho : o.op = .load t x) (hw : Region.wanted o (yielded ops ac.tmps) = true) (g off : Nat) (cs : List Value) (hx : ac.eval x = .pointer (some ⟨g, off, none⟩)) (hB : w.rangeAt g off cs)
    (hu : ∃ d, P.underlying t = some d ∧ d.isRow = true) (hi : (P.info? t).map (·.size) = some cs.length)
    (hK : wpList P ops Q rest (ac.put o.dst (.agg cs.toArray)) w) : wpList P ops Q (o :: rest) ac w := by
  obtain ⟨d, h1, h2⟩ := hu
  have hr := run_loadAt_mid (P := P) w g off t cs d hB h1 h2 hi
  refine wpList_by (fun v w' => v = .agg cs.toArray ∧ w' = w) hw ⟨_, _, ?_, rfl, rfl⟩ (by rintro v w' ⟨rfl, rfl⟩; exact hK)
  simp only [execOp, ho, hx, Sem.run_bind, hr, Result.andThen_ok, Sem.run_pure]
/-- a part of a block -/
theorem Blk.part {w : World} {g : Nat} {cs : List Value} {t : TypeId} (h : Blk w g cs t) (off n : Nat) : w.rangeAt g off ((cs.drop off).take n) := fun i v hv => by
  have h1 : (cs.drop off)[i]? = some v := by
    rw [List.getElem?_take] at hv
    split at hv
    · exact hv
    · cases hv
  rw [List.getElem?_drop] at h1
  exact Blk.get h (off + i) h1

/-- two slabs side by side, or two nil ones -/
structure Mach (w0 : World) where
  p1 : Value
  p2 : Value
  I : List Nat → Sl → Sl → World → Prop
  fput : Sl → Int → BlkD → Sl × Nat
  fget : Sl → Int → BlkD × Nat
  fstore : Sl → RootD → Sl × Nat
  fload : Sl → RootD × Nat
  fflush : Sl → Sl × Nat
  fwrite : Sl → Int → List UInt8 → Sl × Nat
  fcrash : Sl → List UInt8 → Int → Sl × Nat
  farm : Sl → Int → Sl × Nat
  bel : ∀ {X s1 s2 w}, I X s1 s2 w → Below w0.heap.size w0 w
  below : ∀ {X s1 s2 w w'}, I X s1 s2 w → Below w.heap.size w w' → I X s1 s2 w'
  keepX : ∀ {X s1 s2 w w'}, I X s1 s2 w → Below w.heap.size w w' → XKeep X w w'
  moreL : ∀ {X L s1 s2 w w'}, I X s1 s2 w → Below w.heap.size w w' → (∀ x ∈ L, w.heap.size ≤ x ∧ x < w'.heap.size) → I (X ++ L) s1 s2 w'
  less : ∀ {X s1 s2 w}, I X s1 s2 w → I [] s1 s2 w
  other : ∀ {X S s1 s2 w w'}, I X s1 s2 w → Chg S w w' → (∀ x ∈ S, x ∈ X) → (∀ x ∈ S, w0.heap.size ≤ x) → I X s1 s2 w'
  few_put : ∀ {n s} (i x), Few n s → Few (n + 2) (fput s i x).1
  few_store : ∀ {n s} (r), Few n s → Few (n + 2) (fstore s r).1
  few_flush : ∀ {n s}, Few n s → Few (n + 2) (fflush s).1
  few_write : ∀ {n s} (i t), Few n s → Few (n + 2) (fwrite s i t).1
  few_crash : ∀ {n s} (t i), Few n s → Few (n + 2) (fcrash s t i).1
  few_arm : ∀ {n s} (i), Few n s → Few (n + 2) (farm s i).1
  put1 : ∀ {X s1 s2 w}, I X s1 s2 w → ∀ (i : Int) (a : Option Addr) (n c : Nat) (x : BlkD), (-9223372036854775808 ≤ i ∧ i ≤ 9223372036854775807) → x.Ok → BS w a c x.data → x.data.length = n → Few 1000 s1 →
    Calls Tryd.prog 21 #[p1, .int .i64 i, .agg #[.int .u8 (x.kind : Int), .int .u32 (x.epoch : Int), .int .u32 (x.a : Int), .int .u32 (x.b : Int), .slice a n c]] w fun e w' => e = .returned (.int .i64 ((fput s1 i x).2 : Int)) ∧ I X (fput s1 i x).1 s2 w' ∧ XKeep X w w'
  put2 : ∀ {X s1 s2 w}, I X s1 s2 w → ∀ (i : Int) (a : Option Addr) (n c : Nat) (x : BlkD), (-9223372036854775808 ≤ i ∧ i ≤ 9223372036854775807) → x.Ok → BS w a c x.data → x.data.length = n → Few 1000 s2 →
    Calls Tryd.prog 24 #[p2, .int .i64 i, .agg #[.int .u8 (x.kind : Int), .int .u32 (x.epoch : Int), .int .u32 (x.a : Int), .int .u32 (x.b : Int), .slice a n c]] w fun e w' => e = .returned (.int .i64 ((fput s2 i x).2 : Int)) ∧ I X s1 (fput s2 i x).1 w' ∧ XKeep X w w'
  get1 : ∀ {X s1 s2 w}, I X s1 s2 w → ∀ (i : Int), (-9223372036854775808 ≤ i ∧ i ≤ 9223372036854775807) → Calls Tryd.prog 12 #[p1, .int .i64 i] w (BGetTo w (fget s1 i))
  get2 : ∀ {X s1 s2 w}, I X s1 s2 w → ∀ (i : Int), (-9223372036854775808 ≤ i ∧ i ≤ 9223372036854775807) → Calls Tryd.prog 25 #[p2, .int .i64 i] w (BGetTo w (fget s2 i))
  store1 : ∀ {X s1 s2 w}, I X s1 s2 w → ∀ (r : RootD), r.Ok → Few 1000 s1 →
    Calls Tryd.prog 26 #[p1, .agg #[.int .u32 (r.turn : Int), .int .u32 (r.epoch : Int), .int .u32 (r.gen : Int), .int .u8 (r.area : Int)]] w fun e w' => e = .returned (.int .i64 ((fstore s1 r).2 : Int)) ∧ I X (fstore s1 r).1 s2 w' ∧ XKeep X w w'
  store2 : ∀ {X s1 s2 w}, I X s1 s2 w → ∀ (r : RootD), r.Ok → Few 1000 s2 →
    Calls Tryd.prog 27 #[p2, .agg #[.int .u32 (r.turn : Int), .int .u32 (r.epoch : Int), .int .u32 (r.gen : Int), .int .u8 (r.area : Int)]] w fun e w' => e = .returned (.int .i64 ((fstore s2 r).2 : Int)) ∧ I X s1 (fstore s2 r).1 w' ∧ XKeep X w w'
  load1 : ∀ {X s1 s2 w}, I X s1 s2 w → Calls Tryd.prog 28 #[p1] w (LoadTo w (fload s1))
  load2 : ∀ {X s1 s2 w}, I X s1 s2 w → Calls Tryd.prog 29 #[p2] w (LoadTo w (fload s2))
  flush1 : ∀ {X s1 s2 w}, I X s1 s2 w → Few 1000 s1 → Calls Tryd.prog 30 #[p1] w fun e w' => e = .returned (.int .i64 ((fflush s1).2 : Int)) ∧ I X (fflush s1).1 s2 w' ∧ XKeep X w w'
  flush2 : ∀ {X s1 s2 w}, I X s1 s2 w → Few 1000 s2 → Calls Tryd.prog 31 #[p2] w fun e w' => e = .returned (.int .i64 ((fflush s2).2 : Int)) ∧ I X s1 (fflush s2).1 w' ∧ XKeep X w w'
  write1 : ∀ {X s1 s2 w}, I X s1 s2 w → ∀ (i : Int) (a : Option Addr) (c n : Nat) (t : List UInt8), (-9223372036854775808 ≤ i ∧ i ≤ 9223372036854775807) → BS w a c t → t.length = n → Few 1000 s1 → OffX w0 X a t →
    Calls Tryd.prog 11 #[p1, .int .i64 i, .slice a n c] w fun e w' => e = .returned (.int .i64 ((fwrite s1 i t).2 : Int)) ∧ I X (fwrite s1 i t).1 s2 w' ∧ XKeep X w w'
  write2 : ∀ {X s1 s2 w}, I X s1 s2 w → ∀ (i : Int) (a : Option Addr) (c n : Nat) (t : List UInt8), (-9223372036854775808 ≤ i ∧ i ≤ 9223372036854775807) → BS w a c t → t.length = n → Few 1000 s2 → OffX w0 X a t →
    Calls Tryd.prog 32 #[p2, .int .i64 i, .slice a n c] w fun e w' => e = .returned (.int .i64 ((fwrite s2 i t).2 : Int)) ∧ I X s1 (fwrite s2 i t).1 w' ∧ XKeep X w w'
  crash1 : ∀ {X s1 s2 w}, I X s1 s2 w → ∀ (a : Option Addr) (c n : Nat) (t : List UInt8) (i : Int), (-9223372036854775808 ≤ i ∧ i ≤ 9223372036854775807) → BS w a c t → t.length = n → OffX w0 X a t →
    Calls Tryd.prog 33 #[p1, .slice a n c, .int .i64 i] w fun e w' => e = .returned (.int .i64 ((fcrash s1 t i).2 : Int)) ∧ I X (fcrash s1 t i).1 s2 w' ∧ XKeep X w w'
  crash2 : ∀ {X s1 s2 w}, I X s1 s2 w → ∀ (a : Option Addr) (c n : Nat) (t : List UInt8) (i : Int), (-9223372036854775808 ≤ i ∧ i ≤ 9223372036854775807) → BS w a c t → t.length = n → OffX w0 X a t →
    Calls Tryd.prog 34 #[p2, .slice a n c, .int .i64 i] w fun e w' => e = .returned (.int .i64 ((fcrash s2 t i).2 : Int)) ∧ I X s1 (fcrash s2 t i).1 w' ∧ XKeep X w w'
  arm1 : ∀ {X s1 s2 w}, I X s1 s2 w → ∀ (i : Int), i ≤ 9223372036854775807 → Calls Tryd.prog 35 #[p1, .int .i64 i] w fun e w' => e = .returned (.int .i64 ((farm s1 i).2 : Int)) ∧ I X (farm s1 i).1 s2 w' ∧ XKeep X w w'
  arm2 : ∀ {X s1 s2 w}, I X s1 s2 w → ∀ (i : Int), i ≤ 9223372036854775807 → Calls Tryd.prog 36 #[p2, .int .i64 i] w fun e w' => e = .returned (.int .i64 ((farm s2 i).2 : Int)) ∧ I X s1 (farm s2 i).1 w' ∧ XKeep X w w'

theorem Pl.less' {wn w : World} {B2 g d g2 dn dc : Nat} {X : List Nat} {s1 s2 : Sl} (h : Pl wn B2 g d g2 dn dc X s1 s2 w) : Pl wn B2 g d g2 dn dc [] s1 s2 w := h.less (by simp)

/-- two slabs -/
def machPl (wn : World) (B2 g d g2 dn dc : Nat) (hq : Laid wn) : Mach wn where
  p1 := .pointer (some ⟨g, 0, none⟩)
  p2 := .pointer (some ⟨g2, 0, none⟩)
  I := fun X s1 s2 w => Pl wn B2 g d g2 dn dc X s1 s2 w
  fput := putB
  fget := getB
  fstore := storeB
  fload := loadB
  fflush := flushL
  fwrite := writeL
  fcrash := fun s t i => (crashL s t i, 0)
  farm := armL
  bel := fun h => h.bel
  below := fun h hb => h.below hb
  keepX := fun h hb => h.keepX hb
  moreL := fun h hb hl => h.moreL hb hl
  less := fun h => h.less'
  other := fun h hc hx hg => h.other hc hx hg
  few_put := fun i x h => (h.put i x).more
  few_store := fun r h => h.store r
  few_flush := fun h => h.flush.more
  few_write := fun i t h => (h.write i t).more
  few_crash := fun t i h => (h.crash t i).more
  few_arm := fun i h => (h.arm i).more
  put1 := fun h i a n c x hi hx hd hn hf => pl_bput h i a n c x hi hx hd hn hq (by have := hf.1; omega) (by have := hf.2.1; omega)
  put2 := fun h i a n c x hi hx hd hn hf => pl_rbput h i a n c x hi hx hd hn (by have := hf.1; omega) (by have := hf.2.1; omega)
  get1 := fun h i hi => pl_bget h i hi hq
  get2 := fun h i hi => pl_rbget h i hi
  store1 := fun h r hr hf => pl_store h r hr hq (by have := hf.1; omega) (by have := hf.2.1; omega)
  store2 := fun h r hr hf => pl_rstore h r hr (by have := hf.1; omega) (by have := hf.2.1; omega)
  load1 := fun h => pl_load h hq
  load2 := fun h => pl_rload h
  flush1 := fun h hf => pl_flush h (by have := hf.1; omega)
  flush2 := fun h hf => pl_rflush h (by have := hf.1; omega)
  write1 := fun h i a c n t hi ht hn hf ho => pl_write h i a c n t hi ht hn (by have := hf.1; omega) (by have := hf.2.1; omega) ho
  write2 := fun h i a c n t hi ht hn hf ho => pl_put h i a c n t hi ht hn (by have := hf.1; omega) (by have := hf.2.1; omega) ho
  crash1 := fun h a c n t i hi ht hn ho => pl_crash h a c n t i hi ht hn ho
  crash2 := fun h a c n t i hi ht hn ho => pl_rcrash h a c n t i hi ht hn ho
  arm1 := fun h i hi => pl_arm h i hi
  arm2 := fun h i hi => pl_rarm h i hi

def NilI (wn : World) (X : List Nat) (_ _ : Sl) (w : World) : Prop := Below wn.heap.size wn w ∧ ∀ x ∈ X, x < w.heap.size
theorem NilI.below {wn w w' : World} {X : List Nat} {s1 s2 : Sl} (h : NilI wn X s1 s2 w) (hb : Below w.heap.size w w') : NilI wn X s1 s2 w' := ⟨h.1.trans (hb.mono h.1.size), fun x hx => Nat.lt_of_lt_of_le (h.2 x hx) hb.size⟩
theorem NilI.keepX {wn w w' : World} {X : List Nat} {s1 s2 : Sl} (h : NilI wn X s1 s2 w) (hb : Below w.heap.size w w') : XKeep X w w' := fun x hx => hb.block x (h.2 x hx)
theorem NilI.moreL {wn w w' : World} {X L : List Nat} {s1 s2 : Sl} (h : NilI wn X s1 s2 w) (hb : Below w.heap.size w w') (hl : ∀ x ∈ L, w.heap.size ≤ x ∧ x < w'.heap.size) : NilI wn (X ++ L) s1 s2 w' :=
  ⟨h.1.trans (hb.mono h.1.size), fun x hx => by
    rcases List.mem_append.1 hx with hx | hx
    · exact Nat.lt_of_lt_of_le (h.2 x hx) hb.size
    · exact (hl x hx).2⟩
theorem NilI.to {wn w w' : World} {X : List Nat} {s1 s2 : Sl} {e : Ending} (h : NilI wn X s1 s2 w) (he : e = .returned (.int .i64 6)) (hb : Below w.heap.size w w') : e = .returned (.int .i64 ((6 : Nat) : Int)) ∧ NilI wn X s1 s2 w' ∧ XKeep X w w' := ⟨he, h.below hb, h.keepX hb⟩
theorem NilI.same {wn w w' : World} {X : List Nat} {s1 s2 : Sl} {e : Ending} (h : NilI wn X s1 s2 w) (he : e = .returned (.int .i64 6) ∧ w = w') : e = .returned (.int .i64 ((6 : Nat) : Int)) ∧ NilI wn X s1 s2 w' ∧ XKeep X w w' := by
  obtain ⟨rfl, rfl⟩ := he
  exact ⟨rfl, h, fun _ _ => rfl⟩

/-- two nil slabs -/
def machNil (wn : World) : Mach wn where
  p1 := .pointer none
  p2 := .pointer none
  I := NilI wn
  fput := fun s _ _ => (s, 6)
  fget := fun _ _ => (blkZ, 6)
  fstore := fun s _ => (s, 6)
  fload := fun _ => (rootZ, 6)
  fflush := fun s => (s, 6)
  fwrite := fun s _ _ => (s, 6)
  fcrash := fun s _ _ => (s, 6)
  farm := fun s _ => (s, 6)
  bel := fun h => h.1
  below := fun h hb => h.below hb
  keepX := fun h hb => h.keepX hb
  moreL := fun h hb hl => h.moreL hb hl
  less := fun h => ⟨h.1, by simp⟩
  other := fun h hc hx hg => ⟨h.1.trans (hc.below h.1.size hg), fun x hx' => Nat.lt_of_lt_of_le (h.2 x hx') hc.size⟩
  few_put := fun _ _ h => h.mono (by omega)
  few_store := fun _ h => h.mono (by omega)
  few_flush := fun h => h.mono (by omega)
  few_write := fun _ _ h => h.mono (by omega)
  few_crash := fun _ _ h => h.mono (by omega)
  few_arm := fun _ h => h.mono (by omega)
  put1 := fun h i a n c x _ _ _ _ _ => (nilput_calls _ i _ _ _ _ _).mono fun e w' ht => h.to ht.1 ht.2
  put2 := fun h i a n c x _ _ _ _ _ => (nilrbput_calls _ i _ _ _ _ _).mono fun e w' ht => h.to ht.1 ht.2
  get1 := fun h i hi => nilbget_calls _ i
  get2 := fun h i hi => nilrbget_calls _ i
  store1 := fun h r hr _ => (nilstore_calls _ _ _ _ _ hr.area (by have := hr.turn; omega)).mono fun e w' ht => h.to ht.1 ht.2
  store2 := fun h r hr _ => (nilrstore_calls _ _ _ _ _).mono fun e w' ht => h.to ht.1 ht.2
  load1 := fun h => nilload_calls _
  load2 := fun h => nilrload_calls _
  flush1 := fun h _ => (nilflush_calls _).mono fun e w' ht => h.same ht
  flush2 := fun h _ => (nilrflush_calls _).mono fun e w' ht => h.same ht
  write1 := fun h i a c n t _ _ _ _ _ => (nilwrite_calls _ i a n c).mono fun e w' ht => h.same ht
  write2 := fun h i a c n t _ _ _ _ _ => (nilrput_calls _ i a n c).mono fun e w' ht => h.same ht
  crash1 := fun h a c n t i _ _ _ _ => (nilcrash_calls _ _ i).mono fun e w' ht => h.same ht
  crash2 := fun h a c n t i _ _ _ _ => (nilrcrash_calls _ _ i).mono fun e w' ht => h.same ht
  arm1 := fun h i _ => (nilarm_calls _ i).mono fun e w' ht => h.same ht
  arm2 := fun h i _ => (nilrarm_calls _ i).mono fun e w' ht => h.same ht

/-- the rounds of a script -/
def BpRel (wn : World) (M : Mach wn) (n : Nat) (iv : Value) (wr : World) : Prop :=
  ∃ (k : Nat) (s : Sl), iv = .int .i64 (k : Int) ∧ k ≤ n ∧ k ≤ 40 ∧ M.I [] s s wr ∧ Few (2 * k) s
def BpMid (wn : World) (M : Mach wn) (k : Nat) (X : List Nat) (w0 : World) (b : Value) (w : World) : Prop :=
  ∃ s : Sl, b = .bool true ∧ M.I X s s w ∧ Few (2 * (k + 1)) s ∧ XKeep X w0 w
def BpStart (wn : World) (v7 v9 : Value) (w : World) : Prop := ∃ (M : Mach wn) (s : Sl), v7 = M.p1 ∧ v9 = M.p2 ∧ M.I [] s s w ∧ Few 0 s
end Go.Proofs.YtkaidbfpgdfpfaaDoor
