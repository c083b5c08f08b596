/- Layer 7 in a law: the document's example. -/
import Derived.Test.YtoapibbbooongaaDoorScrL
namespace Go.Proofs.YtoapibbbooongaaDoor
open Go.RowKit Go.Quad _root_.Quad _root_.Quad.Slab _root_.Quad.Ink

theorem joinL_bound {N : Nat} (hN : N < 18446744073709551616) : ∀ (l : List Bytes), (∀ t ∈ l, t.length ≤ N) → (joinL l).length ≤ l.length * (10 + N)
  | [], _ => Nat.zero_le _
  | t :: l, h => by
    rw [joinL_cons, List.length_append, List.length_cons, Nat.add_mul, Nat.one_mul]
    have h1 := joinL_bound hN l fun x hx => h x (List.mem_cons_of_mem _ hx)
    have h2 := h t (List.mem_cons_self ..)
    have h3 := numL_len10 (n := t.length) (by omega)
    unfold textL
    rw [List.length_append]
    omega
theorem partsL_one {l : List Bytes} (h : (joinL l).length ≤ 104) : partsL l = 1 := by unfold partsL npart; omega
theorem bs_lit {w : World} {p : Bytes} {n : Nat} (hn : p.length = n) (hm : n ≤ maxLen) : BS (w.alloc (.cells (p.map u8v).toArray 5)) (some ⟨w.heap.size, 0, none⟩) n p := cs_lit w (p.map u8v) 5 n 1 (by rw [List.length_map, hn, Nat.mul_one]) hm
theorem bl_lits {w : World} {ts : List TS} {Q : Nat → Prop} {n : Nat} (h : ∀ t ∈ ts, BS w t.a t.c t.p ∧ InQ Q t.a) (hn : ts.length = n) (hm : n ≤ maxLen) : BL (w.alloc (.cells (ts.flatMap tsV).toArray 33)) (fun k => Q k ∨ k = w.heap.size) (.slice (some ⟨w.heap.size, 0, none⟩) n n) (ts.map TS.p) := by
  subst hn
  have hc := cs_lit w (ts.flatMap tsV) 33 ts.length 1 (flat_length tsV 1 tsV_length ts) hm
  refine ⟨_, ts.length, ts.map (fun t => (.slice t.a t.p.length t.c, t.p)), by rw [List.length_map], ?_, by rw [List.map_map]; rfl, fun x hx => ?_, fun x hx => by cases hx; exact .inr rfl⟩
  · rw [List.flatMap_map]; exact hc
  · obtain ⟨t, ht, rfl⟩ := List.mem_map.1 hx
    obtain ⟨h1, h2⟩ := h t ht
    exact ⟨t.a, t.c, rfl, bs_keep h1 (Chg.of_below [] (below_alloc w _)) (.inr (by simp)), h2.mono fun k h => .inl h⟩
theorem lsl_crash0 (w0 w : World) (X : Nat → Prop) (g : Nat) (s : Sl) (h : LSl w0 X g s w) : Calls Tryd.prog 43 #[.pointer (some ⟨g, 0, none⟩), .slice none 0 0, .int .i64 0] w fun e w' => e = .returned (.int .i64 0) ∧ LSl w0 X g (crashL s [] 0) w' ∧ KeepX X w w' := by
  obtain ⟨h1, h2, d, wv, h3, h4⟩ := h
  exact (crash_calls w w0.heap.size g d wv s none 0 [] 0 h3 ⟨Nat.zero_le _, Nat.zero_le _, fun _ => rfl, .inl rfl⟩ (.inl rfl) (by decide)).mono fun e w' ht => LSl.to h1 h2 h3 h4 ht
/-! the document's example -/
def aw1 : List Bytes := [[1], [2]]
def aw2 : List Bytes := [[3]]
theorem sawake_plain : ∃ s0 s1 s2 s3 s4 r1 r2 b0 b2 b3, formatS (newL 20) 9 [] = (s0, 0) ∧ openS s0 9 = (s1, some (scD s1 9 r1 b0), 0) ∧ r1.epoch = 1 ∧ addS (scD s1 9 r1 b0) aw1 = (scD s2 9 r1 b2, 0) ∧ addS (scD s2 9 r1 b2) aw2 = (scD s3 9 r1 b3, 0) ∧ crashL s3 [] 0 = s3 ∧ openS s3 9 = (s4, some (scD s4 9 r2 b3), 0) ∧ r2.epoch = 2 ∧ (scD s4 9 r2 b3).recs = [[1], [2], [3]] ∧
    (s0.steps ≤ 10 ∧ s0.way = [] ∧ s0.done.length = 20) ∧ (s1.steps ≤ 20 ∧ s1.way = []) ∧ (s2.steps ≤ 30 ∧ s2.way = []) ∧ (s3.steps ≤ 40 ∧ s3.way = [] ∧ s3.done.length = 20) ∧ (scD s1 9 r1 b0).recs.length = 0 ∧ (scD s2 9 r1 b2).recs.length = 2 := by
  have p0 : partsL [[]] = 1 := partsL_one (Nat.le_trans (joinL_bound (N := 0) (by omega) _ (by simp)) (by simp))
  have p1 : partsL aw1 = 1 := partsL_one (Nat.le_trans (joinL_bound (N := 1) (by omega) _ (by simp [aw1])) (by simp [aw1]))
  have p2 : partsL aw2 = 1 := partsL_one (Nat.le_trans (joinL_bound (N := 1) (by omega) _ (by simp [aw2])) (by simp [aw2]))
  obtain ⟨_, s0, _, _, f0, d0, w0, l0, t0⟩ := dk_format (n := 20) (size := 9) (p := []) (by omega) (by omega) (by omega) (by simp) (by omega)
  obtain ⟨s1, o1, d1, w1, l1, t1⟩ := d0.scOpen (by simp) (by simp)
  obtain ⟨s2, a2, d2, w2, l2, t2⟩ := d1.scAdd (l := aw1) (by simp [aw1]) (by simp [aw1]) (by show partsL [[]] + 0 + _ ≤ 9; omega)
  obtain ⟨s3, a3, d3, w3, l3, t3⟩ := d2.scAdd (l := aw2) (by simp [aw2]) (by simp [aw2]) (by rw [lenB_append]; show partsL [[]] + 0 + (partsL aw1 + 0) + _ ≤ 9; omega)
  obtain ⟨s4, o4, d4, w4, l4, t4⟩ := d3.scOpen (by simp [nextR]) (by simp [nextR])
  refine ⟨s0, s1, s2, s3, s4, _, _, _, _, _, f0, o1, rfl, a2, a3, quiet_crash d3.q w3 [] 0, o4, rfl, rfl, ⟨by omega, w0, l0⟩, ⟨by omega, w1⟩, ⟨by omega, w2⟩, ⟨by omega, w3, by omega⟩, rfl, rfl⟩
theorem bl_wider {w : World} {Q Q' : Nat → Prop} {v : Value} {l : List Bytes} (h : BL w Q v l) (hQ : ∀ k, Q k → Q' k) : BL w Q' v l := h.wider hQ
theorem bl_aw1 (w : World) : BL (((w.alloc (.cells #[.int .u8 1] 5)).alloc (.cells #[.int .u8 2] 5)).alloc (.cells #[.slice (some ⟨w.heap.size, 0, none⟩) 1 1, .slice (some ⟨w.heap.size + 1, 0, none⟩) 1 1] 33)) (fun k => w.heap.size ≤ k ∧ k < w.heap.size + 3) (.slice (some ⟨w.heap.size + 1 + 1, 0, none⟩) 2 2) aw1 := by
  have h1 : BS (w.alloc (.cells #[.int .u8 1] 5)) (some ⟨w.heap.size, 0, none⟩) 1 [1] := bs_lit (w := w) (p := [1]) rfl (by decide)
  have h2 : BS ((w.alloc (.cells #[.int .u8 1] 5)).alloc (.cells #[.int .u8 2] 5)) (some ⟨w.heap.size + 1, 0, none⟩) 1 [2] := by
    have h := bs_lit (w := w.alloc (.cells #[.int .u8 1] 5)) (p := [2]) rfl (by decide)
    rw [show (w.alloc (.cells #[.int .u8 1] 5)).heap.size = w.heap.size + 1 from by simp] at h
    exact h
  have h1 := h1.below (below_alloc _ (.cells #[.int .u8 2] 5))
  have hz : ((w.alloc (.cells #[.int .u8 1] 5)).alloc (.cells #[.int .u8 2] 5)).heap.size = w.heap.size + 1 + 1 := by simp
  generalize (w.alloc (.cells #[.int .u8 1] 5)).alloc (.cells #[.int .u8 2] 5) = w2 at h1 h2 hz ⊢
  have h := bl_lits (w := w2) (ts := [⟨some ⟨w.heap.size, 0, none⟩, 1, [1]⟩, ⟨some ⟨w.heap.size + 1, 0, none⟩, 1, [2]⟩]) (Q := fun k => w.heap.size ≤ k ∧ k < w.heap.size + 2) (n := 2) (by
    intro t ht
    rcases List.mem_cons.1 ht with rfl | ht
    · exact ⟨h1, fun x hx => by cases hx; dsimp only; omega⟩
    · rw [List.mem_singleton] at ht; subst ht
      exact ⟨h2, fun x hx => by cases hx; dsimp only; omega⟩) rfl (by decide)
  rw [hz] at h
  exact h.wider fun k hk => by omega
theorem bl_aw2 (w : World) : BL ((w.alloc (.cells #[.int .u8 3] 5)).alloc (.cells #[.slice (some ⟨w.heap.size, 0, none⟩) 1 1] 33)) (fun k => w.heap.size ≤ k ∧ k < w.heap.size + 2) (.slice (some ⟨w.heap.size + 1, 0, none⟩) 1 1) aw2 := by
  have h1 : BS (w.alloc (.cells #[.int .u8 3] 5)) (some ⟨w.heap.size, 0, none⟩) 1 [3] := bs_lit (w := w) (p := [3]) rfl (by decide)
  have hz : (w.alloc (.cells #[.int .u8 3] 5)).heap.size = w.heap.size + 1 := by simp
  generalize (w.alloc (.cells #[.int .u8 3] 5)) = w2 at h1 hz ⊢
  have h := bl_lits (w := w2) (ts := [⟨some ⟨w.heap.size, 0, none⟩, 1, [3]⟩]) (Q := fun k => w.heap.size ≤ k ∧ k < w.heap.size + 1) (n := 1) (by
    intro t ht
    rw [List.mem_singleton] at ht; subst ht
    exact ⟨h1, fun x hx => by cases hx; dsimp only; omega⟩) rfl (by decide)
  rw [hz] at h
  exact h.wider fun k hk => by omega
theorem bl_aw3 (w : World) : BL ((((w.alloc (.cells #[.int .u8 1] 5)).alloc (.cells #[.int .u8 2] 5)).alloc (.cells #[.int .u8 3] 5)).alloc (.cells #[.slice (some ⟨w.heap.size, 0, none⟩) 1 1, .slice (some ⟨w.heap.size + 1, 0, none⟩) 1 1, .slice (some ⟨w.heap.size + 1 + 1, 0, none⟩) 1 1] 33)) (fun _ => True) (.slice (some ⟨w.heap.size + 1 + 1 + 1, 0, none⟩) 3 3) [[1], [2], [3]] := by
  have h1 : BS (w.alloc (.cells #[.int .u8 1] 5)) (some ⟨w.heap.size, 0, none⟩) 1 [1] := bs_lit (w := w) (p := [1]) rfl (by decide)
  have hz1 : (w.alloc (.cells #[.int .u8 1] 5)).heap.size = w.heap.size + 1 := by simp
  generalize (w.alloc (.cells #[.int .u8 1] 5)) = w1 at h1 hz1 ⊢
  have h2 : BS (w1.alloc (.cells #[.int .u8 2] 5)) (some ⟨w1.heap.size, 0, none⟩) 1 [2] := bs_lit (w := w1) (p := [2]) rfl (by decide)
  have h1 := h1.below (below_alloc w1 (.cells #[.int .u8 2] 5))
  have hz2 : (w1.alloc (.cells #[.int .u8 2] 5)).heap.size = w.heap.size + 1 + 1 := by simp; omega
  rw [hz1] at h2
  generalize (w1.alloc (.cells #[.int .u8 2] 5)) = w2 at h1 h2 hz2 ⊢
  have h3 : BS (w2.alloc (.cells #[.int .u8 3] 5)) (some ⟨w2.heap.size, 0, none⟩) 1 [3] := bs_lit (w := w2) (p := [3]) rfl (by decide)
  have h1 := h1.below (below_alloc w2 (.cells #[.int .u8 3] 5))
  have h2 := h2.below (below_alloc w2 (.cells #[.int .u8 3] 5))
  have hz3 : (w2.alloc (.cells #[.int .u8 3] 5)).heap.size = w.heap.size + 1 + 1 + 1 := by simp; omega
  rw [hz2] at h3
  generalize (w2.alloc (.cells #[.int .u8 3] 5)) = w3 at h1 h2 h3 hz3 ⊢
  have h := bl_lits (w := w3) (ts := [⟨some ⟨w.heap.size, 0, none⟩, 1, [1]⟩, ⟨some ⟨w.heap.size + 1, 0, none⟩, 1, [2]⟩, ⟨some ⟨w.heap.size + 1 + 1, 0, none⟩, 1, [3]⟩]) (Q := fun _ => True) (n := 3) (by
    intro t ht
    simp only [List.mem_cons, List.not_mem_nil, or_false] at ht
    rcases ht with rfl | rfl | rfl
    · exact ⟨h1, fun x hx => trivial⟩
    · exact ⟨h2, fun x hx => trivial⟩
    · exact ⟨h3, fun x hx => trivial⟩) rfl (by decide)
  rw [hz3] at h
  exact h.wider fun k hk => trivial
set_option maxRecDepth 100000 in
set_option maxHeartbeats 8000000 in
theorem sawake_calls (w : World) (hq : Laid w) : Calls Tryd.prog 28 #[] w fun e w' => e = .returned (.bool true) ∧ Below w.heap.size w w' := by
  obtain ⟨s0, s1, s2, s3, s4, r1, r2, b0, b2, b3, hf0, ho1, he1, ha2, ha3, hc3, ho4, he4, hrc, ⟨t0, y0, l0⟩, ⟨t1, y1⟩, ⟨t2, y2⟩, ⟨t3, y3, l3⟩, hr1, hr2⟩ := sawake_plain
  have HQ := hid hq
  have HF0 := hid hf0
  have HO1 := hid ho1
  have HE1 := hid he1
  have HA2 := hid ha2
  have HA3 := hid ha3
  have HC3 := hid hc3
  have HO4 := hid ho4
  have HE4 := hid he4
  have HRC := hid hrc
  have T0 := hid (And.intro t0 (And.intro y0 l0))
  have T1 := hid (And.intro t1 y1)
  have T2 := hid (And.intro t2 y2)
  have T3 := hid (And.intro t3 (And.intro y3 l3))
  have HR1 := hid hr1
  have HR2 := hid hr2
  clear hq hf0 ho1 he1 ha2 ha3 hc3 ho4 he4 hrc t0 y0 l0 t1 y1 t2 y2 t3 y3 l3 hr1 hr2
  go_enter Tryd.func28, Tryd.ntmps28
  go_upto_region 2 with (go_at_call 12; go_must (refine (sa_new w 20 (by decide)).mono ?_; rintro e w1 ⟨g, rfl, h1⟩; have S1 := hid (LSl.of h1); clear h1; dsimp only))
  have CFm := hid (lsl_format w w1 (fun _ => False) g (newL 20) 9 none 0 0 [] S1.out (by decide) (by simp [newL]) (BS.nil _) rfl (by simp) (by omega) HQ.out (by show 0 + 6000 < 1000000; omega) (by show 0 + 6000 < 1000000; omega))
  rw [HF0.out] at CFm
  dsimp only at CFm
  go_upto_region 4 with (go_at_call 38; go_must (refine CFm.out.mono ?_; rintro e w2 ⟨rfl, h2, _⟩; have S2 := hid h2; clear h2; dsimp only))
  go_upto_region 5 with (go_at_call 29; go_must (refine (lsl_open w w2 (fun _ => False) g s0 9 S2.out (by decide) (by have := T0.out.2.2; omega) HQ.out (by have := T0.out.1; omega) (by rw [T0.out.2.1]; decide) s1 _ HO1.out).mono ?_; rintro e w3 ⟨q, rfl, h3, _⟩; have S3 := hid h3; clear h3; dsimp only))
  have CE := hid (lsc_epoch w w3 _ g q _ S3.out)
  rw [show (scD s1 9 r1 b0).root.epoch = 1 from HE1.out] at CE
  have CA := hid (show Calls Tryd.prog 40 #[.pointer (some ⟨q, 0, none⟩), .slice (some ⟨w3.heap.size + 1 + 1, 0, none⟩) 2 2] (((w3.alloc (.cells #[.int .u8 1] 5)).alloc (.cells #[.int .u8 2] 5)).alloc (.cells #[.slice (some ⟨w3.heap.size, 0, none⟩) 1 1, .slice (some ⟨w3.heap.size + 1, 0, none⟩) 1 1] 33)) (fun e w' => e = .returned (.int .i64 0) ∧ LSc w (fun k => w3.heap.size ≤ k ∧ k < w3.heap.size + 3) g q (scD s2 9 r1 b2) w') from by
    have hb := bl_aw1 w3
    have hla1 := below_alloc w3 (.cells #[.int .u8 1] 5)
    have hla2 := below_alloc (w3.alloc (.cells #[.int .u8 1] 5)) (.cells #[.int .u8 2] 5)
    have hla3 := below_alloc ((w3.alloc (.cells #[.int .u8 1] 5)).alloc (.cells #[.int .u8 2] 5)) (.cells #[.slice (some ⟨w3.heap.size, 0, none⟩) 1 1, .slice (some ⟨w3.heap.size + 1, 0, none⟩) 1 1] 33)
    have hla12 := hla1.trans (hla2.mono hla1.size)
    have hla := hla12.trans (hla3.mono hla12.size)
    have hz : (((w3.alloc (.cells #[.int .u8 1] 5)).alloc (.cells #[.int .u8 2] 5)).alloc (.cells #[.slice (some ⟨w3.heap.size, 0, none⟩) 1 1, .slice (some ⟨w3.heap.size + 1, 0, none⟩) 1 1] 33)).heap.size = w3.heap.size + 3 := by simp
    generalize (((w3.alloc (.cells #[.int .u8 1] 5)).alloc (.cells #[.int .u8 2] 5)).alloc (.cells #[.slice (some ⟨w3.heap.size, 0, none⟩) 1 1, .slice (some ⟨w3.heap.size + 1, 0, none⟩) 1 1] 33)) = W at hb hla hz ⊢
    have S4 := S3.out.more hla (X' := fun k => w3.heap.size ≤ k ∧ k < w3.heap.size + 3) (fun k hk => .inr ⟨hk.1, by rw [hz]; exact hk.2⟩)
    have h := lsc_add w W _ g q _ _ 2 2 aw1 S4 hb ⟨by simp [aw1], Nat.le_trans (joinL_bound (N := 1) (by omega) _ (by simp [aw1])) (by simp [aw1]), by simp [aw1]⟩ (by rw [HR1.out]; simp [aw1]) HQ.out (by have := T1.out.1; show s1.steps + _ < _; omega) (by show s1.way.length + _ < _; rw [T1.out.2]; decide)
    rw [HA2.out] at h
    exact h.mono fun e w' ⟨h1, h2, _⟩ => ⟨h1, h2⟩)
  have CA2 := hid fun (W0 : World) (S5 : LSc w (fun k => w3.heap.size ≤ k ∧ k < w3.heap.size + 3) g q (scD s2 9 r1 b2) W0) => (show Calls Tryd.prog 40 #[.pointer (some ⟨q, 0, none⟩), .slice (some ⟨W0.heap.size + 1, 0, none⟩) 1 1] ((W0.alloc (.cells #[.int .u8 3] 5)).alloc (.cells #[.slice (some ⟨W0.heap.size, 0, none⟩) 1 1] 33)) (fun e w' => e = .returned (.int .i64 0) ∧ LSc w (fun k => W0.heap.size ≤ k ∧ k < W0.heap.size + 2) g q (scD s3 9 r1 b3) w') from by
    have hb := bl_aw2 W0
    have hla1 := below_alloc W0 (.cells #[.int .u8 3] 5)
    have hla3 := below_alloc (W0.alloc (.cells #[.int .u8 3] 5)) (.cells #[.slice (some ⟨W0.heap.size, 0, none⟩) 1 1] 33)
    have hla := hla1.trans (hla3.mono hla1.size)
    have hz : ((W0.alloc (.cells #[.int .u8 3] 5)).alloc (.cells #[.slice (some ⟨W0.heap.size, 0, none⟩) 1 1] 33)).heap.size = W0.heap.size + 2 := by simp
    generalize ((W0.alloc (.cells #[.int .u8 3] 5)).alloc (.cells #[.slice (some ⟨W0.heap.size, 0, none⟩) 1 1] 33)) = W at hb hla hz ⊢
    have S6 := S5.more hla (X' := fun k => W0.heap.size ≤ k ∧ k < W0.heap.size + 2) (fun k hk => .inr ⟨hk.1, by rw [hz]; exact hk.2⟩)
    have h := lsc_add w W _ g q _ _ 1 1 aw2 S6 hb ⟨by simp [aw2], Nat.le_trans (joinL_bound (N := 1) (by omega) _ (by simp [aw2])) (by simp [aw2]), by simp [aw2]⟩ (by rw [HR2.out]; simp [aw2]) HQ.out (by have := T2.out.1; show s2.steps + _ < _; omega) (by show s2.way.length + _ < _; rw [T2.out.2]; decide)
    rw [HA3.out] at h
    exact h.mono fun e w' ⟨h1, h2, _⟩ => ⟨h1, h2⟩)
  go_upto_region 7 with (first
    | (go_at_call 32; go_must (refine CE.out.mono ?_; rintro e w4 ⟨rfl, rfl⟩; dsimp only))
    | (go_at_call 40; have hx := S5.out; clear hx; refine (CA2.out w5 S5.out).mono ?_; rintro e w6 ⟨rfl, h6⟩; have S6 := hid h6; clear h6; dsimp only)
    | (go_at_call 40; refine CA.out.mono ?_; rintro e w5 ⟨rfl, h5⟩; have S5 := hid h5; clear h5; dsimp only))
  have CC := hid (lsl_crash0 w w6 _ g s3 S6.out.sl)
  rw [HC3.out] at CC
  go_upto_region 8 with (go_at_call 43; go_must (refine CC.out.mono ?_; rintro e w7 ⟨rfl, h7, _⟩; have S7 := hid (LSl.of h7.sa); clear h7; dsimp only))
  go_upto_region 9 with (go_at_call 29; go_must (refine (lsl_open w w7 (fun _ => False) g s3 9 S7.out (by decide) (by have := T3.out.2.2; omega) HQ.out (by have := T3.out.1; omega) (by rw [T3.out.2.1]; decide) s4 _ HO4.out).mono ?_; rintro e w8 ⟨q2, rfl, h8, _⟩; have S8 := hid h8; clear h8; dsimp only))
  have CE2 := hid (lsc_epoch w w8 _ g q2 _ S8.out)
  rw [show (scD s4 9 r2 b3).root.epoch = 2 from HE4.out] at CE2
  have CR2 := hid (lsc_recs w w8 _ g q2 _ S8.out)
  rw [HRC.out] at CR2
  have CSM := hid fun (W0 : World) (a n c) (ts : List TS) (ht : Texts w8 W0 ts (.slice a n c)) (hm : ts.map TS.p = [[1], [2], [3]]) => (show Calls Tryd.prog 35 #[.slice a n c, .slice (some ⟨W0.heap.size + 1 + 1 + 1, 0, none⟩) 3 3] ((((W0.alloc (.cells #[.int .u8 1] 5)).alloc (.cells #[.int .u8 2] 5)).alloc (.cells #[.int .u8 3] 5)).alloc (.cells #[.slice (some ⟨W0.heap.size, 0, none⟩) 1 1, .slice (some ⟨W0.heap.size + 1, 0, none⟩) 1 1, .slice (some ⟨W0.heap.size + 1 + 1, 0, none⟩) 1 1] 33)) (fun e w' => e = .returned (.bool true) ∧ Below W0.heap.size W0 w') from by
    have hb := bl_aw3 W0
    have h1 := below_alloc W0 (.cells #[.int .u8 1] 5)
    have h2 := h1.trans ((below_alloc (W0.alloc (.cells #[.int .u8 1] 5)) (.cells #[.int .u8 2] 5)).mono h1.size)
    have h3 := h2.trans ((below_alloc ((W0.alloc (.cells #[.int .u8 1] 5)).alloc (.cells #[.int .u8 2] 5)) (.cells #[.int .u8 3] 5)).mono h2.size)
    have hla := h3.trans ((below_alloc (((W0.alloc (.cells #[.int .u8 1] 5)).alloc (.cells #[.int .u8 2] 5)).alloc (.cells #[.int .u8 3] 5)) (.cells #[.slice (some ⟨W0.heap.size, 0, none⟩) 1 1, .slice (some ⟨W0.heap.size + 1, 0, none⟩) 1 1, .slice (some ⟨W0.heap.size + 1 + 1, 0, none⟩) 1 1] 33)).mono h3.size)
    generalize ((((W0.alloc (.cells #[.int .u8 1] 5)).alloc (.cells #[.int .u8 2] 5)).alloc (.cells #[.int .u8 3] 5)).alloc (.cells #[.slice (some ⟨W0.heap.size, 0, none⟩) 1 1, .slice (some ⟨W0.heap.size + 1, 0, none⟩) 1 1, .slice (some ⟨W0.heap.size + 1 + 1, 0, none⟩) 1 1] 33)) = W at hb hla ⊢
    have hbl := ht.bl
    rw [hm] at hbl
    refine (same7_calls W _ _ a n c _ _ 3 3 _ (hbl.below hla) hb (by simp) (by simp)).mono fun e w' ⟨h1, h2⟩ => ⟨by rw [h1]; rfl, hla.trans (h2.mono hla.size)⟩)
  go_wp2_with (first
    | (go_at_call 32; go_must (refine CE2.out.mono ?_; rintro e w9 ⟨rfl, rfl⟩; dsimp only))
    | (go_at_call 36; go_must (refine CR2.out.mono ?_; rintro e w10 ⟨ts, bv, rfl, hm, htx, hb10⟩; obtain ⟨a10, n10, c10, rfl, _, _, _⟩ := htx.rb.cs; have M10 := hid hm; have TX10 := hid htx; have B10 := hid hb10; clear hm htx hb10; dsimp only))
    | (go_at_call 35; refine (CSM.out w10 a10 n10 c10 ts TX10.out M10.out).mono ?_; rintro e w11 ⟨rfl, hb11⟩; have B11 := hid hb11; clear hb11; dsimp only))
  go_ret
  have h8 := S8.out.1
  have h10 := h8.trans (B10.out.mono h8.size)
  exact ⟨rfl, h10.trans (B11.out.mono h10.size)⟩
end Go.Proofs.YtoapibbbooongaaDoor
