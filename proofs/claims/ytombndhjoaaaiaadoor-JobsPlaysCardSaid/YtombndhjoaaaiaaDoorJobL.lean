/- The walks of layer 16: what the laws are handed, opened; a set of numbers beside a table; asked of each: what its name says. -/
import Derived.Test.YtombndhjoaaaiaaDoorJobK
import Derived.Deep.Cut
import Derived.Deep.CutRange
namespace Go.Proofs.YtombndhjoaaaiaaDoor
open Go.RowKit Go.Quad _root_.Quad _root_.Quad.Ink

theorem u8_of {n : Int} (h : (Lit.int .u8 n).wf = true) : ∃ k : Nat, n = (k : Int) ∧ k < 256 := by have := bounds_u8 h; exact ⟨n.toNat, by omega, by omega⟩
theorem u32_of {n : Int} (h : (Lit.int .u32 n).wf = true) : ∃ k : Nat, n = (k : Int) ∧ k < 4294967296 := by have := bounds_u32 h; exact ⟨n.toNat, by omega, by omega⟩
theorem list7 {α : Type} {cs : List α} (h : cs.length = 7) : ∃ x0 x1 x2 x3 x4 x5 x6, cs = [x0, x1, x2, x3, x4, x5, x6] := by
  match cs, h with
  | [x0, x1, x2, x3, x4, x5, x6], _ => exact ⟨_, _, _, _, _, _, _, rfl⟩
theorem req_cells {w : World} {cs : List Value} (hl : cs.length = 7) (hr : RC Tryd.prog w 34 cs) : ∃ n : ReqD, cs = reqV n ∧ n.Ok := by
  obtain ⟨x0, x1, x2, x3, x4, x5, x6, rfl⟩ := list7 hl
  obtain ⟨z0, e0, w0⟩ := (hr.fld Tryd.underlying34 0 5 0 1 (by kernel_rfl) (by kernel_rfl)).int under_u8
  obtain ⟨z1, e1, w1⟩ := (hr.fld Tryd.underlying34 1 28 1 1 (by kernel_rfl) (by kernel_rfl)).int Tryd.underlying28
  obtain ⟨z2, e2, w2⟩ := (hr.fld Tryd.underlying34 2 5 2 1 (by kernel_rfl) (by kernel_rfl)).int under_u8
  obtain ⟨z3, e3, w3⟩ := (hr.fld Tryd.underlying34 3 5 3 1 (by kernel_rfl) (by kernel_rfl)).int under_u8
  obtain ⟨z4, e4, w4⟩ := (hr.fld Tryd.underlying34 4 3 4 1 (by kernel_rfl) (by kernel_rfl)).int Tryd.underlying3
  obtain ⟨z5, e5, w5⟩ := (hr.fld Tryd.underlying34 5 3 5 1 (by kernel_rfl) (by kernel_rfl)).int Tryd.underlying3
  obtain ⟨z6, e6, w6⟩ := (hr.fld Tryd.underlying34 6 28 6 1 (by kernel_rfl) (by kernel_rfl)).int Tryd.underlying28
  obtain ⟨k0, rfl, u0⟩ := u8_of w0
  obtain ⟨k1, rfl, u1⟩ := u32_of w1
  obtain ⟨k2, rfl, u2⟩ := u8_of w2
  obtain ⟨k3, rfl, u3⟩ := u8_of w3
  have u4 := bounds_i64 w4
  have u5 := bounds_i64 w5
  obtain ⟨k6, rfl, u6⟩ := u32_of w6
  simp only [List.drop_zero, List.drop_succ_cons, List.take_succ_cons, List.take_zero, List.cons.injEq, and_true] at e0 e1 e2 e3 e4 e5 e6
  subst e0 e1 e2 e3 e4 e5 e6
  exact ⟨⟨k0, k1, k2, k3, z4, z5, k6⟩, rfl, ⟨u0, u1, u2, u3, u4, u5, u6⟩⟩
theorem jreq_open {w : World} {v : Value} (h : RV Tryd.prog w 34 v) : ∃ n : ReqD, v = .agg (reqV n).toArray ∧ n.Ok := by
  obtain ⟨cs, rfl, hl, hr⟩ := h.struct Tryd.underlying34
  obtain ⟨n, rfl, h1⟩ := req_cells (hl.trans (by kernel_rfl)) hr
  exact ⟨n, rfl, h1⟩
structure JopD where
  dd : Nat
  q : ReqD
  n : Int
def jopV (o : JopD) : List Value := [.int .u8 (o.dd : Int)] ++ reqV o.q ++ [.int .i64 o.n]
theorem jopV_length (o : JopD) : (jopV o).length = 9 := rfl
theorem jopV_one (o : JopD) : ∀ u ∈ jopV o, u.oneCell' = true := by
  intro u hu
  rcases List.mem_append.1 hu with hu | hu
  · rcases List.mem_append.1 hu with hu | hu
    · rw [List.mem_singleton] at hu; subst hu; rfl
    · exact reqV_one _ u hu
  · rw [List.mem_singleton] at hu; subst hu; rfl
structure JopD.Ok (o : JopD) : Prop where
  dd : o.dd < 256
  q : o.q.Ok
  n : -9223372036854775808 ≤ o.n ∧ o.n ≤ 9223372036854775807
theorem jop_open {w : World} {cs : List Value} (h : RC Tryd.prog w 48 cs) : ∃ o, cs = jopV o ∧ o.Ok := by
  have hl := h.len Tryd.underlying48
  rw [show Tryd.prog.cellsOf 48 = 9 by kernel_rfl] at hl
  obtain ⟨n, h0, w0⟩ := (h.fld Tryd.underlying48 0 5 0 1 (by kernel_rfl) (by kernel_rfl)).int under_u8
  obtain ⟨q, h1, hq⟩ := req_cells (by rw [List.length_take, List.length_drop, hl]; rfl) (h.fld Tryd.underlying48 1 34 1 7 (by kernel_rfl) (by kernel_rfl))
  obtain ⟨m, h2, w2⟩ := (h.fld Tryd.underlying48 2 3 8 1 (by kernel_rfl) (by kernel_rfl)).int Tryd.underlying3
  obtain ⟨k, rfl, hk⟩ := u8_of w0
  refine ⟨⟨k, q, m⟩, ?_, ⟨hk, hq, bounds_i64 w2⟩⟩
  match cs, hl with
  | [x0, x1, x2, x3, x4, x5, x6, x7, x8], _ =>
    simp only [List.drop_zero, List.drop_succ_cons, List.take_succ_cons, List.take_zero, List.cons.injEq, and_true, reqV] at h0 h1 h2
    obtain ⟨rfl, rfl, rfl, rfl, rfl, rfl, rfl⟩ := h1
    subst h0 h2
    rfl
theorem jops_open {w : World} {v : Value} (h : RV Tryd.prog w 46 v) :
    ∃ (a : Option Addr) (cap : Nat) (l : List JopD), v = .slice a l.length cap ∧ (∀ o ∈ l, o.Ok) ∧ CS w a cap 9 (l.flatMap jopV) ∧ l.length ≤ cap := by
  obtain ⟨a, cap, E, rfl, hE, hl, hc⟩ := h.slice Tryd.underlying46 9 (by kernel_rfl) (by decide)
  have key : ∀ E : List (List Value), (∀ x ∈ E, x.length = 9 ∧ RC Tryd.prog w 48 x) → ∃ l : List JopD, l.length = E.length ∧ E.flatten = l.flatMap jopV ∧ ∀ o ∈ l, o.Ok := by
    intro E
    induction E with
    | nil => intro _; exact ⟨[], rfl, rfl, by simp⟩
    | cons x E ih =>
      intro h
      obtain ⟨l, h1, h2, h3⟩ := ih fun y hy => h y (List.mem_cons_of_mem _ hy)
      obtain ⟨o, ho, hok⟩ := jop_open (h x (List.mem_cons_self ..)).2
      exact ⟨o :: l, by simp [h1], by rw [List.flatten_cons, h2, ho, List.flatMap_cons], fun q hq => by
        rcases List.mem_cons.1 hq with rfl | hq
        · exact hok
        · exact h3 q hq⟩
  obtain ⟨l, h1, h2, h3⟩ := key E hE
  exact ⟨a, cap, l, by rw [h1], h3, by rw [← h2]; exact hc, by omega⟩
def bV1 (b : Bool) : List Value := [.bool b]
theorem bV1_length (b : Bool) : (bV1 b).length = 1 := rfl
theorem bools_open {w : World} {v : Value} (h : RV Tryd.prog w 52 v) : ∃ (a : Option Addr) (cap : Nat) (l : List Bool), v = .slice a l.length cap ∧ CS w a cap 1 (l.flatMap bV1) := by
  obtain ⟨a, cap, E, rfl, hE, hl, hc⟩ := h.slice Tryd.underlying52 1 (by kernel_rfl) (by decide)
  have key : ∀ E : List (List Value), (∀ x ∈ E, x.length = 1 ∧ RC Tryd.prog w 4 x) → ∃ l : List Bool, l.length = E.length ∧ E.flatten = l.flatMap bV1 := by
    intro E
    induction E with
    | nil => intro _; exact ⟨[], rfl, rfl⟩
    | cons x E ih =>
      intro h
      obtain ⟨l, h1, h2⟩ := ih fun y hy => h y (List.mem_cons_of_mem _ hy)
      obtain ⟨b, hb⟩ := (h x (List.mem_cons_self ..)).2.bool Tryd.underlying4
      exact ⟨b :: l, by simp [h1], by rw [List.flatten_cons, h2, hb, List.flatMap_cons]; rfl⟩
  obtain ⟨l, h1, h2⟩ := key E hE
  exact ⟨a, cap, l, by rw [h1], by rw [← h2]; exact hc⟩
def zjop : Array Value := #[.int .u8 0, .int .u8 0, .int .u32 0, .int .u8 0, .int .u8 0, .int .i64 0, .int .i64 0, .int .u32 0, .int .i64 0]
theorem info_jop : (Tryd.prog.info? 48).map (fun i => (i.zero, i.size)) = some (some (.agg zjop), 9) := by kernel_rfl
theorem size_jop : (Tryd.prog.info? 48).map (·.size) = some 9 := by kernel_rfl
theorem row_jop : ∃ d, Tryd.prog.underlying 48 = some d ∧ d.isRow = true := ⟨_, Tryd.underlying48, rfl⟩
theorem blk_part {w : World} {g : Nat} {cs : List Value} {t : TypeId} (h : Blk w g cs t) (off n : Nat) : w.rangeAt g off ((cs.drop off).take n) := fun i v hv => by
  have h1 : (cs.drop off)[i]? = some v := by
    rw [List.getElem?_take] at hv
    split at hv
    · exact hv
    · cases hv
  rw [List.getElem?_drop] at h1
  rw [h.cell]
  exact h1
theorem blk_same {w w' : World} {g : Nat} {cs : List Value} {t : TypeId} (h : Blk w g cs t) (e : w'.heap[g]? = w.heap[g]?) : Blk w' g cs t := by
  unfold Blk at h ⊢
  rw [e]; exact h

/-- as LTo, and the other blocks stay whole -/
def LTs (w W : World) (T b : Nat) (t' : TbD) (G : List Nat) (r : Value) (e : Ending) (W' : World) : Prop :=
  e = .returned r ∧ LT w W' T b t' G ∧ (∀ g ∈ G, W'.heap[g]? = W.heap[g]?) ∧ ∃ S, Chg S W W' ∧ ∀ k ∈ S, k ∉ G ∧ w.heap.size ≤ k
theorem LT.tos {w W : World} {T b : Nat} {t t' : TbD} {G : List Nat} {r : Value} {f : Nat} {args : Array Value} (h : LT w W T b t G) (hc : ∀ ov, IsTb W w.heap.size T b ov t → Calls Tryd.prog f args W (TbTo W w.heap.size T b ov t' r)) : Calls Tryd.prog f args W (LTs w W T b t' G r) := by
  obtain ⟨h1, ov, h2, h3⟩ := h
  refine (hc ov h2).mono ?_
  rintro e W' ⟨rfl, ov', h4, h5, h6⟩
  refine ⟨rfl, ⟨h1.trans (h5.below h1.size (fun k hk => (h2.lt k hk).1)), ov', h4, fun g hg => ⟨Nat.lt_of_lt_of_le (h3 g hg).1 h5.size, fun m => ?_⟩⟩, fun g hg => h5.block g (h3 g hg).1 (h3 g hg).2, _, h5, fun k hk => ⟨fun hg => (h3 k hg).2 hk, (h2.lt k hk).1⟩⟩
  rcases List.mem_cons.1 m with rfl | m
  · exact (h3 _ hg).2 (by simp [tbS])
  · rcases List.mem_cons.1 m with rfl | m
    · exact (h3 _ hg).2 (by simp [tbS])
    · rcases h6 g (by simpa using m) with h | h
      · exact (h3 _ hg).2 h
      · have := (h3 g hg).1; omega
theorem LT.mono {w W : World} {T b : Nat} {t : TbD} {G G' : List Nat} (h : LT w W T b t G) (hG : ∀ g ∈ G', g ∈ G) : LT w W T b t G' := by
  obtain ⟨h1, ov, h2, h3⟩ := h
  exact ⟨h1, ov, h2, fun g hg => h3 g (hG g hg)⟩
theorem LT.chg {w W W' : World} {T b : Nat} {t : TbD} {G S : List Nat} (h : LT w W T b t G) (hc : Chg S W W') (hS : ∀ k ∈ S, k ∈ G ∧ w.heap.size ≤ k) : LT w W' T b t G := by
  obtain ⟨h1, ov, h2, h3⟩ := h
  exact ⟨h1.trans (hc.below h1.size (fun k hk => (hS k hk).2)), ov, h2.chg hc (fun k hk hs => (h3 k (hS k hs).1).2 hk), fun g hg => ⟨Nat.lt_of_lt_of_le (h3 g hg).1 hc.size, (h3 g hg).2⟩⟩
theorem lsdo_calls {w W : World} {T b : Nat} {t : TbD} {G : List Nat} (h : LT w W T b t G) (q : ReqD) (hq : q.Ok) (hl : Laid w) :
    Calls Tryd.prog 11 #[.pointer (some ⟨T, 0, none⟩), .agg (reqV q).toArray] W (LTs w W T b (doT t q).1 G (doRes (doT t q).2)) := h.tos fun ov hT => do_calls W w.heap.size T b ov t q hT hq (h.laid hl)
theorem lsfin_calls {w W : World} {T b : Nat} {t : TbD} {G : List Nat} (h : LT w W T b t G) (id : Nat) (hi : id < 4294967296) :
    Calls Tryd.prog 14 #[.pointer (some ⟨T, 0, none⟩), .int .u32 (id : Int)] W (LTs w W T b (finishT t id).1 G (.int .i64 (finishT t id).2)) := h.tos fun ov hT => finish_calls W w.heap.size T b ov t id hT hi
theorem lnext_calls {w W : World} {T b : Nat} {t : TbD} {G : List Nat} (h : LT w W T b t G) (n : Nat) (hn : t.spent + 1 = n) (hs : n < 4294967296) : Calls Tryd.prog 19 #[.pointer (some ⟨T, 0, none⟩)] W fun e W' => e = .returned (.int .u32 (n : Int)) ∧ W = W' := by
  obtain ⟨_, ov, h2, _⟩ := h
  subst hn
  refine (next_calls16 W w.heap.size T b ov t h2).mono ?_
  rintro e W' ⟨rfl, rfl⟩
  rw [Nat.mod_eq_of_lt hs]
  exact ⟨rfl, rfl⟩
theorem lactive_calls {w W : World} {T b : Nat} {t : TbD} {G : List Nat} (h : LT w W T b t G) : Calls Tryd.prog 17 #[.pointer (some ⟨T, 0, none⟩)] W fun e W' => ∃ a c, e = .returned (.slice a t.active.length c) ∧ RO jobV 6 W' W.heap.size 37 (.slice a t.active.length c) t.active ∧ Below W.heap.size W W' := by
  obtain ⟨_, ov, h2, _⟩ := h
  refine (active_calls W w.heap.size T b ov t h2).mono ?_
  rintro e W' ⟨v, rfl, hr, hb⟩
  obtain ⟨a, c, rfl⟩ := row_slice hr
  exact ⟨a, c, rfl, hr, hb⟩
theorem lover_calls {w W : World} {T b : Nat} {t : TbD} {G : List Nat} (h : LT w W T b t G) : Calls Tryd.prog 16 #[.pointer (some ⟨T, 0, none⟩)] W fun e W' => ∃ a c, e = .returned (.slice a t.over.length c) ∧ RO jobV 6 W' W.heap.size 37 (.slice a t.over.length c) t.over ∧ Below W.heap.size W W' := by
  obtain ⟨_, ov, h2, _⟩ := h
  refine (over_calls W w.heap.size T b ov t h2).mono ?_
  rintro e W' ⟨v, rfl, hr, hb⟩
  obtain ⟨a, c, rfl⟩ := row_slice hr
  exact ⟨a, c, rfl, hr, hb⟩
theorem LT.ok {w W : World} {T b : Nat} {t : TbD} {G : List Nat} (h : LT w W T b t G) : t.Ok := by
  obtain ⟨_, ov, h2, _⟩ := h
  exact h2.ok

/-! ### A set of numbers -/
def boolR (v : Value) : Option (DataW Unit × List MemPlace) :=
  match v with
  | .bool b => some (.lit (.bool b), [])
  | _ => none
theorem boolR_mk (b : Bool) : boolR (.bool b) = some (.lit (.bool b), []) := rfl
theorem boolR_inv {v : Value} {b : Bool} {ps : List MemPlace} (h : boolR v = some (.lit (.bool b), ps)) : v = .bool b := by
  unfold boolR at h
  split at h
  · simp only [Option.some.injEq, Prod.mk.injEq, DataW.lit.injEq, Lit.bool.injEq] at h
    obtain ⟨rfl, _⟩ := h
    rfl
  · cases h
theorem zeroBool (w : World) : (zeroValue 4).run Tryd.prog w = .ok (.bool false) w := by kernel_rfl
structure SetIs (D : DataW Unit) (S : Nat → Bool) : Prop where
  tidy : Maps.Tidy D
  at' : ∀ id, D.atKey (idK id) (.lit (.bool false)) = .lit (.bool (S id))
theorem SetIs.nil : SetIs (.map []) fun _ => false := ⟨Maps.tidy_empty, fun _ => rfl⟩
theorem SetIs.put {D : DataW Unit} {S : Nat → Bool} (h : SetIs D S) (k : Nat) : SetIs (D.put (idK k) (.lit (.bool true))) fun x => x == k || S x := by
  refine ⟨h.tidy.put (idK_key _) _, fun id => ?_⟩
  by_cases e : id = k
  · subst e
    rw [Maps.atKey_put_same h.tidy.isMap (idK_key _)]
    simp
  · rw [Maps.atKey_put_other (idK_ne e), h.at' id]
    have : (id == k) = false := by rw [beq_eq_false_iff_ne]; exact e
    simp [this]
def OW (w W : World) (T b m : Nat) (t : TbD) (S : Nat → Bool) (N : Nat) (G : List Nat) : Prop :=
  LT w W T b t (m :: G) ∧ w.heap.size ≤ m ∧ ∃ nn D, nn ≤ N ∧ W.ownsMap Tryd.prog 28 boolR m nn D ∧ SetIs D S
theorem OW.below {w W W' : World} {T b m N : Nat} {t : TbD} {S : Nat → Bool} {G : List Nat} (h : OW w W T b m t S N G) (hb : Below W.heap.size W W') : OW w W' T b m t S N G := by
  obtain ⟨h1, h2, nn, D, h3, h4, h5⟩ := h
  exact ⟨h1.below hb, h2, nn, D, h3, owns_block h4 (hb.block m h4.lt), h5⟩
theorem OW.mk1 {w W : World} {T b m N : Nat} {t : TbD} {S : Nat → Bool} {G : List Nat} (h : OW w W T b m t S N G) (o : Obj) : OW w (W.alloc o) T b m t S N (W.heap.size :: G) := by
  obtain ⟨h1, h2, nn, D, h3, h4, h5⟩ := h
  exact ⟨(h1.mk1 o).mono (fun g hg => by simp only [List.mem_cons] at hg ⊢; rcases hg with h | h | h; exact .inr (.inl h); exact .inl h; exact .inr (.inr h)), h2, nn, D, h3, owns_block h4 ((below_alloc W o).block m h4.lt), h5⟩
theorem OW.mono {w W : World} {T b m N N' : Nat} {t : TbD} {S : Nat → Bool} {G G' : List Nat} (h : OW w W T b m t S N G) (hG : ∀ g ∈ G', g ∈ G) (hN : N ≤ N') : OW w W T b m t S N' G' := by
  obtain ⟨h1, h2, nn, D, h3, h4, h5⟩ := h
  exact ⟨h1.mono (fun g hg => by rcases List.mem_cons.1 hg with rfl | hg; exact List.mem_cons_self ..; exact List.mem_cons_of_mem _ (hG g hg)), h2, nn, D, Nat.le_trans h3 hN, h4, h5⟩
/-- behind a call on the table -/
theorem OW.call {w W W' : World} {T b m N : Nat} {t t' : TbD} {S : Nat → Bool} {G : List Nat} {r : Value} {e : Ending} (h : OW w W T b m t S N G) (hc : LTs w W T b t' (m :: G) r e W') :
    OW w W' T b m t' S N G ∧ (∀ g ∈ G, W'.heap[g]? = W.heap[g]?) := by
  obtain ⟨_, h2, nn, D, h3, h4, h5⟩ := h
  obtain ⟨_, k1, k2, _⟩ := hc
  exact ⟨⟨k1, h2, nn, D, h3, owns_block h4 (k2 m (List.mem_cons_self ..)), h5⟩, fun g hg => k2 g (List.mem_cons_of_mem _ hg)⟩
/-- behind a number laid in -/
theorem OW.put {w W W' : World} {T b m nn k : Nat} {t : TbD} {D : DataW Unit} {S : Nat → Bool} {G : List Nat} {N : Nat} (h1 : LT w W T b t (m :: G)) (h2 : w.heap.size ≤ m) (h5 : SetIs D S) (hN : nn + 1 ≤ N)
    (ho : W'.ownsMap Tryd.prog 28 boolR m (nn + 1) (D.put (idK k) (.lit (.bool true)))) (hc : Chg [m] W W') : OW w W' T b m t (fun x => x == k || S x) N G :=
  ⟨h1.chg hc (by simp [h2]), h2, nn + 1, _, hN, ho, h5.put k⟩
end Go.Proofs.YtombndhjoaaaiaaDoor
