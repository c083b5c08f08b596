/- What the laws of layer 8 are handed, opened; a list of images that a law made; plain laws on what is put or dropped beside them. -/
import Derived.Test.YtoapibbbooongaaDoorImgX
namespace Go.Proofs.YtoapibbbooongaaDoor
open Go.RowKit Go.Quad _root_.Quad _root_.Quad.Slab

theorem lst5i {α : Type} {cs : List α} (h : cs.length = 5) : ∃ a b c d e, cs = [a, b, c, d, e] := by
  match cs, h with
  | [a, b, c, d, e], _ => exact ⟨a, b, c, d, e, rfl⟩
theorem un32i {n : Int} (h : (Lit.int .u32 n).wf = true) : ∃ k : Nat, n = k ∧ k < 4294967296 := by
  have := bounds_u32 h
  exact ⟨n.toNat, by omega, by omega⟩
def Anyw : Nat → Prop := fun _ => True
/-- an image of the document's, read -/
structure RefR where
  x : Img
  ba : Option Addr
  bc : Nat
  aa : Option Addr
  an : Nat
  ac : Nat
def RefR.V (r : RefR) : List Value := refV r.x (.slice r.ba r.x.blobs.length r.bc) (.slice r.aa r.an r.ac)
theorem RefR.V_length (r : RefR) : r.V.length = 5 := rfl
structure OkRef (w : World) (r : RefR) : Prop where
  job : r.x.job < 4294967296
  ver : r.x.ver < 4294967296
  credit : -9223372036854775808 ≤ r.x.credit ∧ r.x.credit ≤ 9223372036854775807
  bl : BL w Anyw (.slice r.ba r.x.blobs.length r.bc) r.x.blobs
  len : r.x.blobs.length ≤ 9223372036854775807
theorem bl_open {w : World} {cs : List Value} (h : RC Tryd.prog w 34 cs) : ∃ a c l, cs = [.slice a l.length c] ∧ BL w Anyw (.slice a l.length c) l ∧ l.length ≤ 9223372036854775807 := by
  obtain ⟨a, cap, E, rfl, hE, hl, hc⟩ := h.slice under_slbs 1 (by kernel_rfl) (by decide)
  have key : ∀ E : List (List Value), (∀ x ∈ E, x.length = 1 ∧ RC Tryd.prog w 33 x) → ∃ LD : List (Value × List UInt8), LD.length = E.length ∧ E.flatten = LD.flatMap dD ∧ ∀ x ∈ LD, TX w Anyw x.1 x.2 := by
    intro E
    induction E with
    | nil => intro _; exact ⟨[], rfl, rfl, by simp⟩
    | cons x E ih =>
      intro h
      obtain ⟨LD, h1, h2, h3⟩ := ih fun y hy => h y (List.mem_cons_of_mem _ hy)
      obtain ⟨a', c', p, e, hb⟩ := (h x (List.mem_cons_self ..)).2.bytes under_bytes under_u8 (by kernel_rfl)
      refine ⟨(.slice a' p.length c', p) :: LD, by simp [h1], by rw [List.flatten_cons, h2, e, List.flatMap_cons]; rfl, fun q hq => ?_⟩
      rcases List.mem_cons.1 hq with rfl | hq
      · exact ⟨a', c', rfl, hb, fun _ _ => trivial⟩
      · exact h3 q hq
  obtain ⟨LD, h1, h2, h3⟩ := key E hE
  have hm := hc.max
  refine ⟨a, cap, LD.map (·.2), by rw [List.length_map, h1], ⟨a, cap, LD, rfl, by rw [← h2]; exact hc, rfl, h3, fun _ _ => trivial⟩, by rw [List.length_map, h1]; unfold maxLen at hm; omega⟩
theorem ref_cells {w : World} {cs : List Value} (hl : cs.length = 5) (hr : RC Tryd.prog w 53 cs) : ∃ r, cs = r.V ∧ OkRef w r := by
  obtain ⟨x0, x1, x2, x3, x4, rfl⟩ := lst5i hl
  obtain ⟨z0, e0, w0⟩ := (hr.fld Tryd.underlying53 0 31 0 1 (by kernel_rfl) (by kernel_rfl)).int Tryd.underlying31
  obtain ⟨z1, e1, w1⟩ := (hr.fld Tryd.underlying53 1 31 1 1 (by kernel_rfl) (by kernel_rfl)).int Tryd.underlying31
  obtain ⟨z2, e2, w2⟩ := (hr.fld Tryd.underlying53 2 3 2 1 (by kernel_rfl) (by kernel_rfl)).int Tryd.underlying3
  obtain ⟨a, c, l, e3, hb, hm⟩ := bl_open (hr.fld Tryd.underlying53 3 34 3 1 (by kernel_rfl) (by kernel_rfl))
  obtain ⟨a', c', E, e4, _, _, _⟩ := (hr.fld Tryd.underlying53 4 51 4 1 (by kernel_rfl) (by kernel_rfl)).slice Tryd.underlying51 1 (by kernel_rfl) (by decide)
  obtain ⟨k0, rfl, u0⟩ := un32i w0
  obtain ⟨k1, rfl, u1⟩ := un32i w1
  simp only [List.drop_zero, List.drop_succ_cons, List.take_succ_cons, List.take_zero, List.cons.injEq, and_true] at e0 e1 e2 e3 e4
  subst e0 e1 e2 e3 e4
  exact ⟨⟨⟨k0, k1, z2, l, []⟩, a, c, a', E.length, c'⟩, rfl, u0, u1, bounds_i64 w2, hb, hm⟩
theorem ref_open {w : World} {v : Value} (h : RV Tryd.prog w 53 v) : ∃ r, v = .agg r.V.toArray ∧ OkRef w r := by
  obtain ⟨cs, rfl, hl, hr⟩ := h.struct Tryd.underlying53
  obtain ⟨r, rfl, h1⟩ := ref_cells (hl.trans (by kernel_rfl)) hr
  exact ⟨r, rfl, h1⟩
theorem refs_open {w : World} {v : Value} (h : RV Tryd.prog w 50 v) :
    ∃ (a : Option Addr) (cap : Nat) (l : List RefR), v = .slice a l.length cap ∧ (∀ o ∈ l, OkRef w o) ∧ CS w a cap 5 (l.flatMap RefR.V) ∧ l.length ≤ cap := by
  obtain ⟨a, cap, E, rfl, hE, hl, hc⟩ := h.slice Tryd.underlying50 5 (by kernel_rfl) (by decide)
  have key : ∀ E : List (List Value), (∀ x ∈ E, x.length = 5 ∧ RC Tryd.prog w 53 x) → ∃ l : List RefR, l.length = E.length ∧ E.flatten = l.flatMap RefR.V ∧ ∀ o ∈ l, OkRef w o := by
    intro E
    induction E with
    | nil => intro _; exact ⟨[], rfl, rfl, by simp⟩
    | cons x E ih =>
      intro h
      obtain ⟨l, h1, h2, h3⟩ := ih fun y hy => h y (List.mem_cons_of_mem _ hy)
      obtain ⟨o, ho, hok⟩ := ref_cells (h x (List.mem_cons_self ..)).1 (h x (List.mem_cons_self ..)).2
      exact ⟨o :: l, by simp [h1], by rw [List.flatten_cons, h2, ho, List.flatMap_cons], fun q hq => by
        rcases List.mem_cons.1 hq with rfl | hq
        · exact hok
        · exact h3 q hq⟩
  obtain ⟨l, h1, h2, h3⟩ := key E hE
  exact ⟨a, cap, l, by rw [h1], h3, by rw [← h2]; exact hc, by omega⟩
/-- images that a law keeps -/
structure WS where
  x : Img
  a : Option Addr
  c : Nat
def WS.B (s : WS) : Value := .slice s.a s.x.blobs.length s.c
def WS.V (s : WS) : List Value := refV s.x s.B (.slice none 0 0)
theorem WS.V_length (s : WS) : s.V.length = 5 := rfl
theorem WS.V_one (s : WS) : ∀ u ∈ s.V, u.oneCell' = true := by
  intro u hu
  simp only [WS.V, refV, WS.B, List.mem_cons, List.not_mem_nil, or_false] at hu
  rcases hu with rfl | rfl | rfl | rfl | rfl <;> rfl
structure Was (n : Nat) (w : World) (v : Value) (l : List WS) : Prop where
  ro : RO WS.V 5 w n 53 v l
  bl : ∀ p ∈ l, BL w (fun k => n ≤ k ∧ k < w.heap.size ∧ v.ownBlock ≠ some k) p.B p.x.blobs
theorem Was.nil (n : Nat) (w : World) : Was n w (.slice none 0 0) [] := ⟨RO.nil _ _ _ _ _, by simp⟩
theorem Was.keep {n : Nat} {w w' : World} {v : Value} {l : List WS} {S : List Nat} (h : Was n w v l) (hc : Chg S w w') (hS : ∀ k ∈ S, k < n) : Was n w' v l :=
  ⟨h.ro.chg hc fun k hk hm => by have := (h.ro.ownBlock k hk).1; have := hS k hm; omega, fun p hp => (h.bl p hp).keep hc (fun k hk hq => by have := hS k hk; omega) fun k hk => ⟨hk.1, Nat.lt_of_lt_of_le hk.2.1 hc.size, hk.2.2⟩⟩
theorem Was.below {n : Nat} {w w' : World} {v : Value} {l : List WS} (h : Was n w v l) (hb : Below w.heap.size w w') : Was n w' v l := h.keep (S := []) (Chg.of_below [] hb) (by simp)
theorem Was.more {n : Nat} {w w4 w5 : World} {v v' : Value} {l : List WS} (h : Was n w v l) (hn : n ≤ w.heap.size) (hb : Below w.heap.size w w4) (s : WS) (hs : BL w4 (fun k => w.heap.size ≤ k ∧ k < w4.heap.size) s.B s.x.blobs)
    (hro : RO WS.V 5 w5 n 53 v' (l ++ [s])) (hg : w4.grownBy w5 v.ownBlock) (hv : v'.ownBlock = v.ownBlock ∨ v'.ownBlock = some w4.heap.size) : Was n w5 v' (l ++ [s]) := by
  have hbl := h.ro.ownBlock
  have c4 : Chg v.ownBlock.toList w4 w5 := chg_grown hg
  have c : Chg v.ownBlock.toList w w5 := (Chg.of_below _ hb).trans c4
  have s4 := hb.size
  have s5 := c4.size
  refine ⟨hro, fun p hp => ?_⟩
  rcases List.mem_append.1 hp with hp | hp
  · refine (h.bl p hp).keep c (fun k hk hq => hq.2.2 (by simpa using hk)) fun k hk => ⟨hk.1, Nat.lt_of_lt_of_le hk.2.1 (Nat.le_trans s4 s5), fun e => ?_⟩
    rcases hv with hv | hv
    · exact hk.2.2 (by rw [← hv]; exact e)
    · rw [hv] at e; simp only [Option.some.injEq] at e; have := hk.2.1; omega
  · rw [List.mem_singleton] at hp
    subst hp
    refine hs.keep c4 (fun k hk hq => by have := hbl k (by simpa using hk); omega) fun k hk => ⟨by omega, by omega, fun e => ?_⟩
    rcases hv with hv | hv
    · have := hbl k (hv.symm.trans e); omega
    · rw [hv] at e; simp only [Option.some.injEq] at e; omega
theorem ls_putc (w0 w : World) (n g c : Nat) (I : Im) (x : Img) (ba : Option Addr) (bn bc : Nat) (h : LS w0 n g c I w) (hB : BL w (fun k => n ≤ k) (.slice ba bn bc) x.blobs) (hj : x.job < 4294967296) (hv : x.ver < 4294967296) (hc : -9223372036854775808 ≤ x.credit ∧ x.credit ≤ 9223372036854775807) (hq : Laid w0) (hs : I.sl.steps + 100 < 1000000) (hw : I.sl.way.length + 100 < 1000000) :
    Calls Tryd.prog 14 #[.pointer (some ⟨c, 0, none⟩), .agg (imgV x (.slice ba bn bc)).toArray] w fun e w' => e = .returned (.int .i64 ((putI I x).2 : Int)) ∧ LS w0 w'.heap.size g c (putI I x).1 w' ∧ ∃ S, Chg S w w' ∧ ∀ k ∈ S, k < n := by
  obtain ⟨h1, h2, d, wv, mb, fg, fd, Q, E, h3, h4, h5⟩ := h
  exact (iput_calls w w0.heap.size g d wv c mb fg fd Q _ E I x ba bn bc h3 hB (fun k hk h => by have := h4 k hk; omega) hj hv hc (hq.below h1 hq.1) hq.1 hs hw).mono fun e w' ht => ⟨(StTo.ls h1 h3 ht).1, (StTo.ls h1 h3 ht).2, _, ht.choose_spec.choose_spec.choose_spec.2.2.1, h4⟩
theorem ls_dropc (w0 w : World) (n g c : Nat) (I : Im) (job : Nat) (h : LS w0 n g c I w) (hj : job < 4294967296) (hs : I.sl.steps + 100 < 1000000) (hw : I.sl.way.length + 100 < 1000000) :
    Calls Tryd.prog 25 #[.pointer (some ⟨c, 0, none⟩), .int .u32 (job : Int)] w fun e w' => e = .returned (.int .i64 ((dropI I job).2 : Int)) ∧ LS w0 w'.heap.size g c (dropI I job).1 w' ∧ ∃ S, Chg S w w' ∧ ∀ k ∈ S, k < n := by
  obtain ⟨h1, h2, d, wv, mb, fg, fd, Q, E, h3, h4, h5⟩ := h
  exact (idrop_calls w w0.heap.size g d wv c mb fg fd Q E I job h3 hj hs hw).mono fun e w' ht => ⟨(StTo.ls h1 h3 ht).1, (StTo.ls h1 h3 ht).2, _, ht.choose_spec.choose_spec.choose_spec.2.2.1, h4⟩
/-! plain -/
theorem open_any {s : Sl} {f n e : Nat} (q : Quiet s) (hf : f + n ≤ s.done.length) (hn : 0 < n) : openI s (f : Int) ((f + n : Nat) : Int) e = (some ⟨s, f, e, listI (seeG s f) n n, usedI n (listI (seeG s f) n n), false⟩, 0) := by
  unfold openI
  rw [if_neg (by omega), if_neg (by simp [q.on]), Int.toNat_natCast, show (((f + n : Nat) : Int) - (f : Int)).toNat = n from by omega]
def doI (drop : Bool) (I : Im) (x : Img) : Im × Nat := if drop then dropI I x.job else putI I x
theorem small_L {I : Im} (h : Inv I) : ∀ x ∈ I.L, ∀ b ∈ x.blobs, b.length ≤ 100000 := fun x hx b hb => Nat.le_trans (there_small (h.there x hx) b hb) (by omega)
theorem small_J (G : Sl) (f n k : Nat) : ∀ x ∈ listI (seeG G f) n k, ∀ b ∈ x.blobs, b.length ≤ 100000 := fun x hx b hb => by
  obtain ⟨a, ha, h⟩ := (lists (seeG G f) n k).src x hx
  exact Nat.le_trans (there_small h b hb) (by omega)
theorem apart_do {I : Im} (hi : Inv I) (d : Bool) {x : Img} (hj : x.job < 4294967296) (hv : x.ver < 4294967296) :
    Quiet (doI d I x).1.sl ∧ (doI d I x).1.sl.done.length = I.sl.done.length ∧ (∀ j, j ≠ x.job → findI (doI d I x).1.L j = findI I.L j) ∧ (∀ j, j ≠ x.job → findI (listI (seeG (doI d I x).1.sl I.from') I.used.length I.used.length) j = findI I.L j) ∧ ∀ y ∈ (doI d I x).1.L, ∀ b ∈ y.blobs, b.length ≤ 100000 := by
  cases d with
  | false =>
    obtain ⟨h1, h2, h3, h4, h5, h6⟩ := hi.put' hj hv
    have hf := h1.find
    rw [h2, h3] at hf
    exact ⟨h1.quiet, h5, h6, fun j hj => (hf j).trans (h6 j hj), small_L h1⟩
  | true =>
    show Quiet (dropI I x.job).1.sl ∧ _
    cases hf : findI I.L x.job with
    | none =>
      rw [show doI true I x = _ from drop_none hi hf]
      rw [drop_none hi hf]
      exact ⟨hi.quiet, rfl, fun _ _ => rfl, fun j _ => hi.find j, small_L hi⟩
    | some y =>
      obtain ⟨s', q, _, hd, _, e1, e2, e⟩ := drop_some hi hf
      obtain ⟨hy, hyj⟩ := find_some hf
      rw [show doI true I x = _ from e]
      rw [e]
      exact ⟨q, hd, fun j hj => find_filter hj, fun j hj => drop_find hi hy e1 e2 (by omega), fun z hz => small_L hi z (List.mem_filter.1 hz).1⟩
theorem two_filters (p q : Img → Bool) (h : ∀ y, p y = true → q y = false) (L : List Img) : (L.filter p).length + (L.filter q).length ≤ L.length := by
  induction L with
  | nil => exact Nat.le_refl _
  | cons y L ih =>
    cases hp : p y with
    | true => rw [List.filter_cons_of_pos hp, List.filter_cons_of_neg (by rw [h y hp]; simp), List.length_cons, List.length_cons]; omega
    | false =>
      rw [List.filter_cons_of_neg (by rw [hp]; simp), List.length_cons]
      have h2 : (List.filter q (y :: L)).length ≤ (List.filter q L).length + 1 := by
        rw [List.filter_cons]; split
        · exact Nat.le_refl _
        · exact Nat.le_succ _
      omega
theorem setK_len (x : Img) {L : List Img} (h : L.Pairwise (fun a b => a.job < b.job)) : (setK Img.job x L).length ≤ L.length + 1 := by
  rw [setK_eq Img.job x h, List.length_append, List.length_cons]
  have := two_filters (fun y => decide (y.job < x.job)) (fun y => decide (x.job < y.job)) (fun y hy => by have := of_decide_eq_true hy; exact decide_eq_false (by omega)) L
  omega
theorem put_len {I : Im} {x : Img} (hi : Inv I) (hj : x.job < 4294967296) (hv : x.ver < 4294967296) : (putI I x).1.L.length ≤ I.L.length + 1 := by
  rcases put_ways hi hj hv with ⟨r, h, _⟩ | h
  · rw [h]; exact Nat.le_succ _
  · rw [(hi.put h).2.2.2.2.1]; exact setK_len _ hi.sorted
/-! a law's own block that lies ahead of its store's -/
theorem graft (w0 w' : World) (x : Nat) (hx : x < w0.heap.size) (hx' : x < w'.heap.size) : ∃ w1, Chg [x] w0 w1 ∧ w1.heap.size = w0.heap.size ∧ w1.heap[x]? = w'.heap[x]? := by
  refine ⟨{ w0 with heap := w0.heap.set x (w'.heap[x]'hx') hx }, ⟨rfl, rfl, rfl, by simp, fun k hk hs => ?_⟩, by simp, ?_⟩
  · rw [List.mem_singleton] at hs
    simp only [Array.getElem?_set]
    rw [if_neg (by omega)]
  · simp [Array.getElem?_set, hx']
theorem ls_rebase {w0 w w' w1 : World} {n g c x : Nat} {I : Im} (h : LS w0 n g c I w) (hc : Chg [x] w w') (hx : x < w0.heap.size) (h1 : Chg [x] w0 w1) (hz : w1.heap.size = w0.heap.size) (he : w1.heap[x]? = w'.heap[x]?) : LS w1 n g c I w' := by
  obtain ⟨q1, q2, d, wv, mb, fg, fd, Q, E, q3, q4, q5⟩ := h
  have hsl : ∀ k ∈ slS g d wv, w0.heap.size ≤ k := fun k hk => (q3.slab.in_ge k hk).1
  refine ⟨⟨?_, ?_, ?_, ?_, ?_⟩, Nat.le_trans q2 hc.size, d, wv, mb, fg, fd, Q, E, ?_, q4, q5⟩
  · rw [hc.os, q1.os, h1.os]
  · rw [hc.tape, q1.tape, h1.tape]
  · rw [hc.output, q1.output, h1.output]
  · rw [hz]; exact Nat.le_trans q1.size hc.size
  · intro k hk
    rw [hz] at hk
    by_cases e : k = x
    · subst e; exact he.symm
    · rw [hc.block k (Nat.lt_of_lt_of_le hk q1.size) (by simpa using e), q1.block k hk, h1.block k hk (by simpa using e)]
  · have h5 : ∀ k ∈ [x], k ∉ slS g d wv ∧ k ∉ [c, mb, fg, fd] ∧ ¬ Q k := fun k hk => by
      rw [List.mem_singleton] at hk; subst hk
      exact ⟨fun hm => by have := hsl _ hm; omega, fun hm => by have := (q3.sto.lt _ hm).1; omega, fun hq => by have := (q3.sto.inQ _ hq).1; omega⟩
    rw [hz]
    exact ⟨q3.slab.chg hc fun k hk => (h5 k hk).1, q3.sto.keep hc fun k hk => (h5 k hk).2, q3.apart, q3.q⟩
end Go.Proofs.YtoapibbbooongaaDoor
