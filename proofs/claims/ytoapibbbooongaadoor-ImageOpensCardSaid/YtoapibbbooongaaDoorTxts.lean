/- Texts that a call has made, in a row of its own. -/
import Derived.Test.YtoapibbbooongaaDoorImgA
import Derived.Test.YtoapibbbooongaaDoorBlkG
namespace Go.Proofs.YtoapibbbooongaaDoor
open Go.RowKit Go.Quad _root_.Quad _root_.Quad.Slab

/-- a text where it lies -/
structure TS where
  a : Option Addr
  c : Nat
  p : List UInt8
def tsV (t : TS) : List Value := [.slice t.a t.p.length t.c]
theorem tsV_length (t : TS) : (tsV t).length = 1 := rfl
theorem tsV_one (t : TS) : ∀ u ∈ tsV t, u.oneCell' = true := by intro u hu; simp only [tsV, List.mem_singleton] at hu; subst hu; rfl
theorem under_slbs : Tryd.prog.underlying 34 = some (.slice 33) := by kernel_rfl
theorem info_slb : (Tryd.prog.info? 33).map (fun i => (i.zero, i.size, i.bytes)) = some (some (.slice none 0 0), 1, 24) := by kernel_rfl
theorem opOk_append_ro {α : Type} {f : α → List Value} {sz : Nat} (hf : ∀ x, (f x).length = sz) (h1c : ∀ x, ∀ u ∈ f x, u.oneCell' = true) (hsz : 0 < sz)
    {P : Program} {o : Oper} {ρ : Operand → Value} {w : World} {K : Value → World → Prop} (s x : Operand) (t : TypeId) (ho : o.op = .call { callee := .builtin .append, args := #[s, x], argTypes := #[t, t] })
    (base : Nat) (e : TypeId) (z : Value) (bytes : Nat) (hinf : (P.info? e).map (fun i => (i.zero, i.size, i.bytes)) = some (some z, sz, bytes)) (hzs : z.cells.size = sz) (ht : P.underlying t = some (.slice e))
    (v : Value) (l : List α) (hown : RO f sz w base e v l) (hs : ρ s = v) {a : Option Addr} {c m : Nat} {l' : List α} (hm : l'.length = m) (hc : CS w a c sz (l'.flatMap f)) (hmc : m ≤ c) (hx : ρ x = .slice a m c)
    (hbytes : (l.length + l'.length) * (bytes + 1) ≤ 140737488355328) (hbase : base ≤ w.heap.size)
    (hK : ∀ v' w', RO f sz w' base e v' (l ++ l') → w.grownBy w' v.ownBlock → (v'.ownBlock = v.ownBlock ∨ v'.ownBlock = some w.heap.size) → K v' w') : OpOk P o ρ w K := by
  obtain ⟨i, hi, hz0, hz1, hz2⟩ := info_parts hinf
  subst hm
  have h63 : l.length + l'.length ≤ maxLen := by
    have : (l.length + l'.length) * 1 ≤ (l.length + l'.length) * (bytes + 1) := Nat.mul_le_mul_left _ (by omega)
    unfold maxLen; omega
  have hby : (l.length + l'.length) * bytes ≤ 140737488355328 := Nat.le_trans (Nat.mul_le_mul_left _ (Nat.le_succ _)) hbytes
  have h1 : ∀ u ∈ l'.flatMap f, u.oneCell' = true := by
    intro u hu
    obtain ⟨y, _, hy⟩ := List.mem_flatMap.1 hu
    exact h1c y u hy
  have key : ∃ v' w', (Builtin.append_ #[t, t] o.type #[v, .slice a l'.length c]).run P w = .ok v' w' ∧ w'.ownsRow base e sz v' (l.length + l'.length) (l.flatMap f ++ l'.flatMap f) ∧ w.grownBy w' v.ownBlock ∧ (v'.ownBlock = v.ownBlock ∨ v'.ownBlock = some w.heap.size) := by
    cases a with
    | none =>
      have h0 := CS.none hc rfl
      subst h0
      have hl0 : l' = [] := List.eq_nil_of_length_eq_zero (by omega)
      subst hl0
      exact ⟨v, w, run_append_owned_none (P := P) w base t o.type e i sz ht hi v _ _ hown, by have hh : w.ownsRow base e sz v l.length (l.flatMap f) := hown; simpa using hh, ⟨rfl, rfl, rfl, Nat.le_refl _, fun _ _ _ => rfl⟩, .inl rfl⟩
    | some y =>
      obtain ⟨v', w', h1, h2, h3, _, h5⟩ := run_append_own_at (P := P) w base t o.type e i z sz bytes ht hi hz0 hz1 hz2 hzs hsz v _ _ hown y l'.length c (l'.flatMap f) (flat_length f sz hf l') (by
        intro j u hj
        have hpos : 0 < (l'.flatMap f).length := by
          rcases Nat.lt_or_ge j (l'.flatMap f).length with h | h
          · omega
          · rw [List.getElem?_eq_none h] at hj; cases hj
        obtain ⟨b, off, e', hh⟩ := CS.at hc hpos
        cases e'
        have := hh j u hj
        unfold Addr.add
        split
        · rename_i h0; subst h0; simpa using this
        · exact this) h1 h63 hby hbase
      exact ⟨v', w', h1, h2, h3, h5⟩
  obtain ⟨v', w', hr, h2, h3, h4⟩ := key
  refine opOk_run (v := v') (w' := w') ?_ (hK v' w' (by unfold RO; rw [List.length_append, List.flatMap_append]; exact h2) h3 h4)
  simp only [execOp, ho, resolve, invoke, builtin, Sem.run_bind, Sem.run_pure, Result.andThen_ok, List.map_toArray, List.map_cons, List.map_nil, hs, hx, hr]
/-- an image's texts, its own -/
structure Texts (w3 w : World) (ts : List TS) (bv : Value) : Prop where
  rb : RO tsV 1 w w3.heap.size 33 bv ts
  tx : ∀ t ∈ ts, BS w t.a t.c t.p ∧ ∀ x, t.a = some x → w3.heap.size ≤ x.block ∧ x.block < w.heap.size ∧ bv.ownBlock ≠ some x.block
theorem Texts.keep {S : List Nat} {w3 w w' : World} {ts : List TS} {bv : Value} (h : Texts w3 w ts bv) (hc : Chg S w w') (hS : ∀ k ∈ S, k < w3.heap.size) : Texts w3 w' ts bv :=
  ⟨h.rb.chg hc (fun k hk hm => by have := hS k hm; have := (h.rb.ownBlock k hk).1; omega), fun t ht => ⟨bs_keep (h.tx t ht).1 hc (.inr fun x hx hm => by have := hS _ hm; have := ((h.tx t ht).2 x hx).1; omega), fun x hx => ⟨((h.tx t ht).2 x hx).1, Nat.lt_of_lt_of_le ((h.tx t ht).2 x hx).2.1 hc.size, ((h.tx t ht).2 x hx).2.2⟩⟩⟩
theorem Texts.more {w3 w w4 w5 : World} {ts : List TS} {bv bv' : Value} (h : Texts w3 w ts bv) (h3 : w3.heap.size ≤ w.heap.size) (hb : Below w.heap.size w w4) (t : TS) (ht : BS w4 t.a t.c t.p) (hn : ∀ x, t.a = some x → w.heap.size ≤ x.block ∧ x.block < w4.heap.size)
    (hro : RO tsV 1 w5 w3.heap.size 33 bv' (ts ++ [t])) (hg : w4.grownBy w5 bv.ownBlock) (hv : bv'.ownBlock = bv.ownBlock ∨ bv'.ownBlock = some w4.heap.size) : Texts w3 w5 (ts ++ [t]) bv' := by
  have hbl : ∀ k, bv.ownBlock = some k → w3.heap.size ≤ k ∧ k < w.heap.size := h.rb.ownBlock
  have c4 : Chg bv.ownBlock.toList w4 w5 := chg_grown hg
  have c : Chg bv.ownBlock.toList w w5 := (Chg.of_below _ hb).trans c4
  have s4 := hb.size
  have s5 := c4.size
  refine ⟨hro, fun t0 h0 => ?_⟩
  rcases List.mem_append.1 h0 with h0 | h0
  · obtain ⟨h1, h2⟩ := h.tx t0 h0
    refine ⟨bs_keep h1 c (.inr fun x hx hm => (h2 x hx).2.2 (by simpa using hm)), fun x hx => ?_⟩
    obtain ⟨q1, q2, q3⟩ := h2 x hx
    refine ⟨q1, by omega, fun e => ?_⟩
    rcases hv with hv | hv
    · exact q3 (by rw [← hv]; exact e)
    · rw [hv] at e; simp only [Option.some.injEq] at e; omega
  · rw [List.mem_singleton] at h0
    subst h0
    refine ⟨bs_keep ht c4 (.inr fun x hx hm => by have := hbl _ (show bv.ownBlock = some x.block by simpa using hm); have := hn x hx; omega), fun x hx => ?_⟩
    obtain ⟨q1, q2⟩ := hn x hx
    refine ⟨by omega, by omega, fun e => ?_⟩
    rcases hv with hv | hv
    · have := hbl _ (hv.symm.trans e); omega
    · rw [hv] at e; simp only [Option.some.injEq] at e; omega
theorem Texts.moreC {S : List Nat} {w3 w w4 w5 : World} {ts : List TS} {bv bv' : Value} (h : Texts w3 w ts bv) (h3 : w3.heap.size ≤ w.heap.size) (hb : Chg S w w4) (hS : ∀ k ∈ S, k < w3.heap.size) (t : TS) (ht : BS w4 t.a t.c t.p) (hn : ∀ x, t.a = some x → w.heap.size ≤ x.block ∧ x.block < w4.heap.size)
    (hro : RO tsV 1 w5 w3.heap.size 33 bv' (ts ++ [t])) (hg : w4.grownBy w5 bv.ownBlock) (hv : bv'.ownBlock = bv.ownBlock ∨ bv'.ownBlock = some w4.heap.size) : Texts w3 w5 (ts ++ [t]) bv' := by
  have hbl : ∀ k, bv.ownBlock = some k → w3.heap.size ≤ k ∧ k < w.heap.size := h.rb.ownBlock
  have h4 := h.keep hb hS
  have c4 : Chg bv.ownBlock.toList w4 w5 := chg_grown hg
  have s4 := hb.size
  have s5 := c4.size
  refine ⟨hro, fun t0 h0 => ?_⟩
  rcases List.mem_append.1 h0 with h0 | h0
  · obtain ⟨h1, h2⟩ := h4.tx t0 h0
    refine ⟨bs_keep h1 c4 (.inr fun x hx hm => (h2 x hx).2.2 (by simpa using hm)), fun x hx => ?_⟩
    obtain ⟨q1, q2, q3⟩ := h2 x hx
    refine ⟨q1, by omega, fun e => ?_⟩
    rcases hv with hv | hv
    · exact q3 (by rw [← hv]; exact e)
    · rw [hv] at e; simp only [Option.some.injEq] at e; omega
  · rw [List.mem_singleton] at h0
    subst h0
    refine ⟨bs_keep ht c4 (.inr fun x hx hm => by have := hbl _ (show bv.ownBlock = some x.block by simpa using hm); have := hn x hx; omega), fun x hx => ?_⟩
    obtain ⟨q1, q2⟩ := hn x hx
    refine ⟨by omega, by omega, fun e => ?_⟩
    rcases hv with hv | hv
    · have := hbl _ (hv.symm.trans e); omega
    · rw [hv] at e; simp only [Option.some.injEq] at e; omega
theorem Texts.base {w3 w0 w : World} {ts : List TS} {bv : Value} (h : Texts w3 w ts bv) (hb : w0.heap.size ≤ w3.heap.size) : Texts w0 w ts bv :=
  ⟨h.rb.base' hb, fun t ht => ⟨(h.tx t ht).1, fun x hx => ⟨Nat.le_trans hb ((h.tx t ht).2 x hx).1, ((h.tx t ht).2 x hx).2⟩⟩⟩
theorem Texts.bl {w3 w : World} {ts : List TS} {bv : Value} (h : Texts w3 w ts bv) : BL w (fun k => w3.heap.size ≤ k ∧ k < w.heap.size) bv (ts.map TS.p) := by
  have ho := h.rb.ownBlock
  obtain ⟨ba, bn, bc, rfl, hbn, hbc, hb⟩ := h.rb.cs
  subst hbn
  refine ⟨ba, bc, ts.map (fun t => (.slice t.a t.p.length t.c, t.p)), by rw [List.length_map], ?_, ?_, fun x hx => ?_, fun x hx => ?_⟩
  · rw [List.flatMap_map]; exact hb
  · rw [List.map_map]; rfl
  · obtain ⟨t, ht, rfl⟩ := List.mem_map.1 hx
    exact ⟨t.a, t.c, rfl, (h.tx t ht).1, fun y hy => ⟨((h.tx t ht).2 y hy).1, ((h.tx t ht).2 y hy).2.1⟩⟩
  · subst hx
    exact ho x.block rfl
/-- the blocks of a row of texts -/
def TsX (ts : List TS) (bv : Value) : Nat → Prop := fun k => bv.ownBlock = some k ∨ ∃ t ∈ ts, ∃ x, t.a = some x ∧ x.block = k
theorem Texts.lt {w3 w : World} {ts : List TS} {bv : Value} (h : Texts w3 w ts bv) : ∀ k, TsX ts bv k → w3.heap.size ≤ k ∧ k < w.heap.size := by
  intro k hk
  rcases hk with hk | ⟨t, ht, x, hx, rfl⟩
  · exact h.rb.ownBlock k hk
  · exact ⟨((h.tx t ht).2 x hx).1, ((h.tx t ht).2 x hx).2.1⟩
theorem Texts.chg {S : List Nat} {w3 w w' : World} {ts : List TS} {bv : Value} (h : Texts w3 w ts bv) (hc : Chg S w w') (hS : ∀ k ∈ S, ¬ TsX ts bv k) : Texts w3 w' ts bv :=
  ⟨h.rb.chg hc (fun k hk hm => hS k hm (.inl hk)), fun t ht => ⟨bs_keep (h.tx t ht).1 hc (.inr fun x hx hm => hS _ hm (.inr ⟨t, ht, x, hx, rfl⟩)), fun x hx => ⟨((h.tx t ht).2 x hx).1, Nat.lt_of_lt_of_le ((h.tx t ht).2 x hx).2.1 hc.size, ((h.tx t ht).2 x hx).2.2⟩⟩⟩
theorem Texts.below {w3 w w' : World} {ts : List TS} {bv : Value} (h : Texts w3 w ts bv) (hb : Below w.heap.size w w') : Texts w3 w' ts bv := h.chg (Chg.of_below [] hb) (by simp)
/-- a row of texts as a list, of its own blocks -/
theorem Texts.blx {w3 w : World} {ts : List TS} {bv : Value} (h : Texts w3 w ts bv) : BL w (TsX ts bv) bv (ts.map TS.p) := by
  obtain ⟨ba, bn, bc, rfl, hbn, hbc, hb⟩ := h.rb.cs
  subst hbn
  refine ⟨ba, bc, ts.map (fun t => (.slice t.a t.p.length t.c, t.p)), by rw [List.length_map], ?_, ?_, fun x hx => ?_, fun x hx => ?_⟩
  · rw [List.flatMap_map]; exact hb
  · rw [List.map_map]; rfl
  · obtain ⟨t, ht, rfl⟩ := List.mem_map.1 hx
    exact ⟨t.a, t.c, rfl, (h.tx t ht).1, fun y hy => .inr ⟨t, ht, y, hy, rfl⟩⟩
  · subst hx
    exact .inl rfl
/-- one row behind the other -/
theorem Texts.cat {w3 wa w w' : World} {ts ts2 : List TS} {bv bv2 v' : Value} (h : Texts w3 w ts bv) (hlt : ∀ k, TsX ts bv k → k < wa.heap.size) (h2 : Texts wa w ts2 bv2) (h3 : w3.heap.size ≤ wa.heap.size) (hro : RO tsV 1 w' w3.heap.size 33 v' (ts ++ ts2)) (hg : w.grownBy w' bv.ownBlock) (hv : v'.ownBlock = bv.ownBlock ∨ v'.ownBlock = some w.heap.size) : Texts w3 w' (ts ++ ts2) v' := by
  have hc := chg_grown hg
  have hs := hc.size
  refine ⟨hro, fun t ht => ?_⟩
  rcases List.mem_append.1 ht with ht | ht
  · obtain ⟨h1, h4⟩ := h.tx t ht
    refine ⟨bs_keep h1 hc (.inr fun x hx hm => (h4 x hx).2.2 (by simpa using hm)), fun x hx => ⟨(h4 x hx).1, Nat.lt_of_lt_of_le (h4 x hx).2.1 hs, fun e => ?_⟩⟩
    rcases hv with hv | hv
    · exact (h4 x hx).2.2 (hv ▸ e)
    · rw [hv] at e; simp only [Option.some.injEq] at e; have := (h4 x hx).2.1; omega
  · obtain ⟨h1, h4⟩ := h2.tx t ht
    refine ⟨bs_keep h1 hc (.inr fun x hx hm => ?_), fun x hx => ⟨Nat.le_trans h3 (h4 x hx).1, Nat.lt_of_lt_of_le (h4 x hx).2.1 hs, fun e => ?_⟩⟩
    · have := hlt x.block (.inl (by simpa using hm)); have := (h4 x hx).1; omega
    · rcases hv with hv | hv
      · have := hlt x.block (.inl (hv ▸ e)); have := (h4 x hx).1; omega
      · rw [hv] at e; simp only [Option.some.injEq] at e; have := (h4 x hx).2.1; omega
theorem TsX.cat {ts ts2 : List TS} {bv v' : Value} {k n : Nat} (hv : v'.ownBlock = bv.ownBlock ∨ v'.ownBlock = some n) (h : TsX (ts ++ ts2) v' k) : TsX ts bv k ∨ (∃ t ∈ ts2, ∃ x, t.a = some x ∧ x.block = k) ∨ k = n := by
  rcases h with h | ⟨t, ht, x, hx, rfl⟩
  · rcases hv with hv | hv
    · exact .inl (.inl (hv ▸ h))
    · rw [hv] at h; simp only [Option.some.injEq] at h; exact .inr (.inr h.symm)
  · rcases List.mem_append.1 ht with ht | ht
    · exact .inl (.inr ⟨t, ht, x, hx, rfl⟩)
    · exact .inr (.inl ⟨t, ht, x, hx, rfl⟩)
/-- texts that may be written to -/
def Loose (w : World) (ts : List TS) : Prop := ∀ t ∈ ts, ∀ x, t.a = some x → ∃ cur, Blk w x.block cur 5
theorem Loose.keep {S : List Nat} {w w' : World} {ts : List TS} (h : Loose w ts) (hc : Chg S w w') (hS : ∀ t ∈ ts, ∀ x, t.a = some x → x.block ∉ S) : Loose w' ts := fun t ht x hx => by
  obtain ⟨cur, hb⟩ := h t ht x hx
  exact ⟨cur, hb.keep hc (hS t ht x hx)⟩
theorem Loose.more {w3 w w4 w5 : World} {ts : List TS} {bv : Value} (h : Loose w ts) (ht : Texts w3 w ts bv) (hb : Below w.heap.size w w4) (t : TS) (hl : ∀ x, t.a = some x → w.heap.size ≤ x.block ∧ ∃ cur, Blk w4 x.block cur 5) (hg : w4.grownBy w5 bv.ownBlock) : Loose w5 (ts ++ [t]) := by
  intro t0 h0 x hx
  have c4 := chg_grown hg
  rcases List.mem_append.1 h0 with h0 | h0
  · obtain ⟨cur, hk⟩ := h t0 h0 x hx
    exact ⟨cur, (hk.below hb).keep c4 (fun hm => ((ht.tx t0 h0).2 x hx).2.2 (by simpa using hm))⟩
  · rw [List.mem_singleton] at h0
    subst h0
    obtain ⟨hx1, cur, hk⟩ := hl x hx
    exact ⟨cur, hk.keep c4 (fun hm => by have := (ht.rb.ownBlock x.block (by simpa using hm)).2; omega)⟩
theorem OB.loose {w : World} {base : Nat} {a : Option Addr} {n c : Nat} {l : List UInt8} (h : OB w base 5 (.slice a n c) l) : ∀ x, a = some x → ∃ cur, Blk w x.block cur 5 := by
  intro x hx
  subst hx
  rcases h.2 with ⟨h0, _⟩ | ⟨g, cap, cur, hv, hb, hg, _⟩
  · cases h0
  · cases hv
    exact ⟨cur.toList, by unfold Blk; rw [hg]⟩
end Go.Proofs.YtoapibbbooongaaDoor
