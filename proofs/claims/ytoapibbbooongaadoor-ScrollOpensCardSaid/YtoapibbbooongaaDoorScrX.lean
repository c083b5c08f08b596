/- A list of texts that a law gathers beside a scroll. -/
import Derived.Test.YtoapibbbooongaaDoorScrV
namespace Go.Proofs.YtoapibbbooongaaDoor
open Go.RowKit Go.Quad _root_.Quad _root_.Quad.Slab _root_.Quad.Ink

/-- the blocks of a row of texts -/
def TsX (ts : List TS) (bv : Value) : Nat → Prop := fun k => bv.ownBlock = some k ∨ ∃ t ∈ ts, ∃ x, t.a = some x ∧ x.block = k
theorem Texts.lt {w3 w : World} {ts : List TS} {bv : Value} (h : Texts w3 w ts bv) : ∀ k, TsX ts bv k → w3.heap.size ≤ k ∧ k < w.heap.size := by
  intro k hk
  rcases hk with hk | ⟨t, ht, x, hx, rfl⟩
  · exact h.rb.ownBlock k hk
  · exact ⟨((h.tx t ht).2 x hx).1, ((h.tx t ht).2 x hx).2.1⟩
theorem Texts.chg {S : List Nat} {w3 w w' : World} {ts : List TS} {bv : Value} (h : Texts w3 w ts bv) (hc : Chg S w w') (hS : ∀ k ∈ S, ¬ TsX ts bv k) : Texts w3 w' ts bv :=
  ⟨h.rb.chg hc (fun k hk hm => hS k hm (.inl hk)), fun t ht => ⟨bs_keep (h.tx t ht).1 hc (.inr fun x hx hm => hS _ hm (.inr ⟨t, ht, x, hx, rfl⟩)), fun x hx => ⟨((h.tx t ht).2 x hx).1, Nat.lt_of_lt_of_le ((h.tx t ht).2 x hx).2.1 hc.size, ((h.tx t ht).2 x hx).2.2⟩⟩⟩
theorem KeepX.texts {X : Nat → Prop} {w3 w w' : World} {ts : List TS} {bv : Value} (hk : KeepX X w w') (h : Texts w3 w ts bv) (hX : ∀ k, TsX ts bv k → X k) : Texts w3 w' ts bv := let ⟨_, hc, hS⟩ := hk; h.chg hc fun k hk hx => hS k hk (hX k hx)
theorem Texts.below {w3 w w' : World} {ts : List TS} {bv : Value} (h : Texts w3 w ts bv) (hb : Below w.heap.size w w') : Texts w3 w' ts bv := h.chg (Chg.of_below [] hb) (by simp)
/-- a row of texts as a list, of its own blocks -/
theorem Texts.blx {w3 w : World} {ts : List TS} {bv : Value} (h : Texts w3 w ts bv) : BL w (TsX ts bv) bv (ts.map TS.p) := by
  obtain ⟨ba, bn, bc, rfl, hbn, hbc, hb⟩ := h.rb.cs
  subst hbn
  refine ⟨ba, bc, ts.map (fun t => (.slice t.a t.p.length t.c, t.p)), by rw [List.length_map], ?_, ?_, fun x hx => ?_, fun x hx => ?_⟩
  · rw [List.flatMap_map]; exact hb
  · rw [List.map_map]; rfl
  · obtain ⟨t, ht, rfl⟩ := List.mem_map.1 hx
    exact ⟨t.a, t.c, rfl, (h.tx t ht).1, fun y hy => .inr ⟨t, ht, y, hy, rfl⟩⟩
  · subst hx
    exact .inl rfl
/-- one row behind the other -/
theorem Texts.cat {w3 wa w w' : World} {ts ts2 : List TS} {bv bv2 v' : Value} (h : Texts w3 w ts bv) (hlt : ∀ k, TsX ts bv k → k < wa.heap.size) (h2 : Texts wa w ts2 bv2) (h3 : w3.heap.size ≤ wa.heap.size) (hro : RO tsV 1 w' w3.heap.size 33 v' (ts ++ ts2)) (hg : w.grownBy w' bv.ownBlock) (hv : v'.ownBlock = bv.ownBlock ∨ v'.ownBlock = some w.heap.size) : Texts w3 w' (ts ++ ts2) v' := by
  have hc := chg_grown hg
  have hs := hc.size
  refine ⟨hro, fun t ht => ?_⟩
  rcases List.mem_append.1 ht with ht | ht
  · obtain ⟨h1, h4⟩ := h.tx t ht
    refine ⟨bs_keep h1 hc (.inr fun x hx hm => (h4 x hx).2.2 (by simpa using hm)), fun x hx => ⟨(h4 x hx).1, Nat.lt_of_lt_of_le (h4 x hx).2.1 hs, fun e => ?_⟩⟩
    rcases hv with hv | hv
    · exact (h4 x hx).2.2 (hv ▸ e)
    · rw [hv] at e; simp only [Option.some.injEq] at e; have := (h4 x hx).2.1; omega
  · obtain ⟨h1, h4⟩ := h2.tx t ht
    refine ⟨bs_keep h1 hc (.inr fun x hx hm => ?_), fun x hx => ⟨Nat.le_trans h3 (h4 x hx).1, Nat.lt_of_lt_of_le (h4 x hx).2.1 hs, fun e => ?_⟩⟩
    · have := hlt x.block (.inl (by simpa using hm)); have := (h4 x hx).1; omega
    · rcases hv with hv | hv
      · have := hlt x.block (.inl (hv ▸ e)); have := (h4 x hx).1; omega
      · rw [hv] at e; simp only [Option.some.injEq] at e; have := (h4 x hx).2.1; omega
theorem LSl.grow {w0 w w' : World} {X X' : Nat → Prop} {S : List Nat} {g : Nat} {s : Sl} (h : LSl w0 X g s w) (hc : Chg S w w') (hS : ∀ k ∈ S, X k) (hX : ∀ x, X' x → X x ∨ (w.heap.size ≤ x ∧ x < w'.heap.size)) : LSl w0 X' g s w' := by
  have hlt := fun (d : Nat) (wv : Value) (h3 : IsSlab w w0.heap.size g d wv s) (k : Nat) (hk : k ∈ slS g d wv) => (h3.in_ge k hk).2
  obtain ⟨h1, h2, d, wv, h3, h4⟩ := h
  refine ⟨h1.trans (hc.below h1.size fun k hk => (h2 k (hS k hk)).1), fun x hx => ?_, d, wv, h3.chg hc fun k hk => h4 k (hS k hk), fun x hx hm => ?_⟩
  · rcases hX x hx with h | h
    · exact ⟨(h2 x h).1, Nat.lt_of_lt_of_le (h2 x h).2 hc.size⟩
    · exact ⟨Nat.le_trans h1.size h.1, h.2⟩
  · rcases hX x hx with h | h
    · exact h4 x h hm
    · have := hlt d wv h3 x hm; omega
theorem LSc.grow {w0 w w' : World} {X X' : Nat → Prop} {S : List Nat} {g q : Nat} {c : Scr} (h : LSc w0 X g q c w) (hc : Chg S w w') (hS : ∀ k ∈ S, X k) (hX : ∀ x, X' x → X x ∨ (w.heap.size ≤ x ∧ x < w'.heap.size)) : LSc w0 X' g q c w' := by
  have h' := h.other hc hS
  obtain ⟨h1, h2, d, wv, Q, sv, rv, ts, h3, h4⟩ := h
  refine ⟨h'.1, fun x hx => ?_, d, wv, Q, sv, rv, ts, ⟨h3.slab.chg hc fun k hk hm => (h4 k (hS k hk)).1 (by unfold scS; exact List.mem_append_left _ hm), h3.scr.keep hc fun k hk => ⟨fun e => (h4 k (hS k hk)).1 (by unfold scS; rw [e]; simp), (h4 k (hS k hk)).2, fun e => (h4 k (hS k hk)).1 (by unfold scS; simp [e])⟩, h3.apart⟩, fun x hx => ?_⟩
  · rcases hX x hx with h | h
    · exact ⟨(h2 x h).1, Nat.lt_of_lt_of_le (h2 x h).2 hc.size⟩
    · exact ⟨Nat.le_trans h1.size h.1, h.2⟩
  · rcases hX x hx with h | h
    · exact h4 x h
    · refine ⟨fun hm => ?_, fun hq => by have := (h3.scr.inQ x hq).2; omega⟩
      rcases scS_mem hm with hm | hm | hm
      · have := (h3.slab.in_ge x hm).2; omega
      · have := h3.scr.own.lt; omega
      · have := (h3.scr.row.ownBlock x hm).2; omega
/-- a row of its own, of texts that lie elsewhere -/
structure WantR (w0 w1 w : World) (ts : List TS) (bv : Value) : Prop where
  row : RO tsV 1 w w1.heap.size 33 bv ts
  tx : ∀ t ∈ ts, BS w0 t.a t.c t.p
def OwnX (bv : Value) : Nat → Prop := fun k => bv.ownBlock = some k
theorem WantR.bl {w0 w1 w : World} {ts : List TS} {bv : Value} (h : WantR w0 w1 w ts bv) (hb : Below w0.heap.size w0 w) : BL w AnyB bv (ts.map TS.p) := by
  obtain ⟨ba, bn, bc, rfl, hbn, hbc, hc⟩ := h.row.cs
  subst hbn
  refine ⟨ba, bc, ts.map (fun t => (.slice t.a t.p.length t.c, t.p)), by rw [List.length_map], ?_, ?_, fun x hx => ?_, fun x hx => trivial⟩
  · rw [List.flatMap_map]; exact hc
  · rw [List.map_map]; rfl
  · obtain ⟨t, ht, rfl⟩ := List.mem_map.1 hx
    exact ⟨t.a, t.c, rfl, (h.tx t ht).below hb, fun y hy => trivial⟩
theorem WantR.below {w0 w1 w w' : World} {ts : List TS} {bv : Value} (h : WantR w0 w1 w ts bv) (hb : Below w.heap.size w w') : WantR w0 w1 w' ts bv := ⟨h.row.chg (Chg.of_below [] hb) (by simp), h.tx⟩
theorem KeepX.want {X : Nat → Prop} {w0 w1 w w' : World} {ts : List TS} {bv : Value} (hk : KeepX X w w') (h : WantR w0 w1 w ts bv) (hX : ∀ k, OwnX bv k → X k) : WantR w0 w1 w' ts bv := let ⟨_, hc, hS⟩ := hk; ⟨h.row.chg hc (fun k hk hm => hS k hm (hX k hk)), h.tx⟩
theorem TsX.cat {ts ts2 : List TS} {bv v' : Value} {k n : Nat} (hv : v'.ownBlock = bv.ownBlock ∨ v'.ownBlock = some n) (h : TsX (ts ++ ts2) v' k) : TsX ts bv k ∨ (∃ t ∈ ts2, ∃ x, t.a = some x ∧ x.block = k) ∨ k = n := by
  rcases h with h | ⟨t, ht, x, hx, rfl⟩
  · rcases hv with hv | hv
    · exact .inl (.inl (hv ▸ h))
    · rw [hv] at h; simp only [Option.some.injEq] at h; exact .inr (.inr h.symm)
  · rcases List.mem_append.1 ht with ht | ht
    · exact .inl (.inr ⟨t, ht, x, hx, rfl⟩)
    · exact .inr (.inl ⟨t, ht, x, hx, rfl⟩)
theorem few_ok (l : List Bytes) : LsOk (fewL l) := by
  have h1 := fewL_len l
  have h2 := joinL_bound (N := 300) (by omega) (fewL l) fewL_small
  exact ⟨fun t ht => by have := fewL_small t ht; omega, by omega, by omega⟩
theorem few_parts (l : List Bytes) : partsL (fewL l) ≤ 18 := by
  have h1 := fewL_len l
  have h2 := joinL_bound (N := 300) (by omega) (fewL l) fewL_small
  unfold partsL npart
  omega
end Go.Proofs.YtoapibbbooongaaDoor
