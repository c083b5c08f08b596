/- Images in memory: texts, lists of texts, lists of places, a store's map. (Several texts in one: ImgA, ImgS.) -/
import Derived.Test.YtoapibbbooongaaDoorImgM
import Derived.Test.YtoapibbbooongaaDoorRfA
import Derived.Test.YtoapibbbooongaaDoorBlkM
import Derived.Test.YtoapibbbooongaaDoorSlabE

/- Images in memory: texts, lists of texts, lists of places, a store's map. -/
namespace Go.Proofs.YtoapibbbooongaaDoor
open Go.RowKit Go.Quad _root_.Quad _root_.Quad.Slab

/-- an address in blocks of Q -/
def InQ (Q : Nat → Prop) (a : Option Addr) : Prop := ∀ x, a = some x → Q x.block
theorem InQ.mono {Q Q' : Nat → Prop} {a : Option Addr} (h : InQ Q a) (hQ : ∀ k, Q k → Q' k) : InQ Q' a := fun x hx => hQ _ (h x hx)
theorem InQ.none (Q : Nat → Prop) : InQ Q none := fun _ h => by cases h
/-- a text -/
def TX (w : World) (Q : Nat → Prop) (v : Value) (p : List UInt8) : Prop := ∃ a c, v = .slice a p.length c ∧ BS w a c p ∧ InQ Q a
theorem TX.keep {S : List Nat} {w w' : World} {Q Q' : Nat → Prop} {v : Value} {p : List UInt8} (h : TX w Q v p) (hc : Chg S w w') (hS : ∀ k ∈ S, ¬ Q k) (hQ : ∀ k, Q k → Q' k) : TX w' Q' v p := by
  obtain ⟨a, c, e, hb, hq⟩ := h
  exact ⟨a, c, e, cs_chg hb hc fun x hx hm => hS _ hm (hq x hx), hq.mono hQ⟩
theorem TX.wider {w : World} {Q Q' : Nat → Prop} {v : Value} {p : List UInt8} (h : TX w Q v p) (hQ : ∀ k, Q k → Q' k) : TX w Q' v p := h.keep (Chg.refl [] w) (by simp) hQ
theorem TX.below {w w' : World} {Q : Nat → Prop} {v : Value} {p : List UInt8} (h : TX w Q v p) (hb : Below w.heap.size w w') : TX w' Q v p := h.keep (Chg.of_below [] hb) (by simp) (fun _ h => h)
/-- a list of texts -/
def BL (w : World) (Q : Nat → Prop) (v : Value) (l : List (List UInt8)) : Prop :=
  ∃ a c, ∃ LD : List (Value × List UInt8), v = .slice a l.length c ∧ CS w a c 1 (LD.flatMap dD) ∧ LD.map (·.2) = l ∧ (∀ x ∈ LD, TX w Q x.1 x.2) ∧ InQ Q a
theorem BL.keep {S : List Nat} {w w' : World} {Q Q' : Nat → Prop} {v : Value} {l : List (List UInt8)} (h : BL w Q v l) (hc : Chg S w w') (hS : ∀ k ∈ S, ¬ Q k) (hQ : ∀ k, Q k → Q' k) : BL w' Q' v l := by
  obtain ⟨a, c, LD, e, h1, h2, h3, h4⟩ := h
  exact ⟨a, c, LD, e, h1.chg hc fun x hx hm => hS _ hm (h4 x hx), h2, fun x hx => (h3 x hx).keep hc hS hQ, h4.mono hQ⟩
theorem BL.wider {w : World} {Q Q' : Nat → Prop} {v : Value} {l : List (List UInt8)} (h : BL w Q v l) (hQ : ∀ k, Q k → Q' k) : BL w Q' v l := h.keep (Chg.refl [] w) (by simp) hQ
theorem BL.below {w w' : World} {Q : Nat → Prop} {v : Value} {l : List (List UInt8)} (h : BL w Q v l) (hb : Below w.heap.size w w') : BL w' Q v l := h.keep (Chg.of_below [] hb) (by simp) (fun _ h => h)
theorem BL.at {w : World} {Q : Nat → Prop} {a : Option Addr} {n c : Nat} {l : List (List UInt8)} (h : BL w Q (.slice a n c) l) {k : Nat} (hk : k < l.length) :
    ∃ b off, a = some ⟨b, off, none⟩ ∧ Q b ∧ ∃ v, w.cell? ⟨b, off + k, none⟩ = some v ∧ TX w Q v (l.getD k []) := by
  obtain ⟨a', c', LD, e, h1, h2, h3, h4⟩ := h
  cases e
  have hl : LD.length = l.length := by rw [← h2, List.length_map]
  rcases h1.at' with h0 | ⟨b, off, rfl, hh⟩
  · have : LD.length * 1 = 0 := by rw [← flat_length dD 1 dD_length, h0]; rfl
    omega
  · have hk' : k < LD.length := by omega
    refine ⟨b, off, rfl, h4 _ rfl, LD[k].1, ?_, ?_⟩
    · have := hh k LD[k].1 (by
        have := flat_get dD 1 dD_length LD k 0 LD[k] (List.getElem?_eq_getElem hk') (by omega)
        simpa [dD] using this)
      exact this
    · have e1 : l.getD k [] = LD[k].2 := by
        rw [List.getD_eq_getElem?_getD, ← h2, List.getElem?_map, List.getElem?_eq_getElem hk']; rfl
      rw [e1]
      exact h3 _ (List.getElem_mem hk')
theorem BL.len {w : World} {Q : Nat → Prop} {a : Option Addr} {n c : Nat} {l : List (List UInt8)} (h : BL w Q (.slice a n c) l) : n = l.length ∧ l.length ≤ c := by
  obtain ⟨a', c', LD, e, h1, h2, h3, h4⟩ := h
  cases e
  have hl : LD.length = l.length := by rw [← h2, List.length_map]
  have := h1.fit
  rw [flat_length dD 1 dD_length] at this
  exact ⟨rfl, by omega⟩
/-- a list of places -/
def aV (i : Nat) : List Value := [.int .i64 (i : Int)]
theorem aV_length (i : Nat) : (aV i).length = 1 := rfl
theorem aV_one (i : Nat) : ∀ u ∈ aV i, u.oneCell' = true := by intro u hu; simp [aV] at hu; subst hu; rfl
theorem dD_one {x : Value × List UInt8} (h : ∃ a n c, x.1 = .slice a n c) : ∀ u ∈ dD x, u.oneCell' = true := by
  obtain ⟨a, n, c, h⟩ := h
  intro u hu; simp [dD] at hu; subst hu; rw [h]; rfl
def AL (w : World) (Q : Nat → Prop) (v : Value) (l : List Nat) : Prop := ∃ a c, v = .slice a l.length c ∧ CS w a c 1 (l.flatMap aV) ∧ InQ Q a
theorem AL.keep {S : List Nat} {w w' : World} {Q Q' : Nat → Prop} {v : Value} {l : List Nat} (h : AL w Q v l) (hc : Chg S w w') (hS : ∀ k ∈ S, ¬ Q k) (hQ : ∀ k, Q k → Q' k) : AL w' Q' v l := by
  obtain ⟨a, c, e, h1, h4⟩ := h
  exact ⟨a, c, e, h1.chg hc fun x hx hm => hS _ hm (h4 x hx), h4.mono hQ⟩
theorem AL.wider {w : World} {Q Q' : Nat → Prop} {v : Value} {l : List Nat} (h : AL w Q v l) (hQ : ∀ k, Q k → Q' k) : AL w Q' v l := h.keep (Chg.refl [] w) (by simp) hQ
theorem AL.below {w w' : World} {Q : Nat → Prop} {v : Value} {l : List Nat} (h : AL w Q v l) (hb : Below w.heap.size w w') : AL w' Q v l := h.keep (Chg.of_below [] hb) (by simp) (fun _ h => h)
theorem AL.at {w : World} {Q : Nat → Prop} {a : Option Addr} {n c : Nat} {l : List Nat} (h : AL w Q (.slice a n c) l) {k : Nat} (hk : k < l.length) :
    ∃ b off, a = some ⟨b, off, none⟩ ∧ Q b ∧ w.cell? ⟨b, off + k, none⟩ = some (.int .i64 (l.getD k 0 : Int)) := by
  obtain ⟨a', c', e, h1, h4⟩ := h
  cases e
  rcases h1.at' with h0 | ⟨b, off, rfl, hh⟩
  · have : l.length * 1 = 0 := by rw [← flat_length aV 1 aV_length, h0]; rfl
    omega
  · refine ⟨b, off, rfl, h4 _ rfl, ?_⟩
    rw [List.getD_eq_getElem?_getD, List.getElem?_eq_getElem hk]
    exact hh k _ (by
      have := flat_get aV 1 aV_length l k 0 l[k] (List.getElem?_eq_getElem hk) (by omega)
      simpa [aV] using this)
theorem AL.len {w : World} {Q : Nat → Prop} {a : Option Addr} {n c : Nat} {l : List Nat} (h : AL w Q (.slice a n c) l) : n = l.length ∧ l.length ≤ c := by
  obtain ⟨a', c', e, h1, h4⟩ := h
  cases e
  have := h1.fit
  rw [flat_length aV 1 aV_length] at this
  exact ⟨rfl, by omega⟩

/-- an image of a store: where its lists lie -/
structure Ent where
  x : Img
  bb : Nat
  bo : Nat
  bc : Nat
  ab : Nat
  ao : Nat
  ac : Nat
def Ent.bv (e : Ent) : Value := .slice (some ⟨e.bb, e.bo, none⟩) e.x.blobs.length e.bc
def Ent.av (e : Ent) : Value := .slice (some ⟨e.ab, e.ao, none⟩) e.x.at'.length e.ac
def imgV (x : Img) (bv : Value) : List Value := [.int .u32 (x.job : Int), .int .u32 (x.ver : Int), .int .i64 x.credit, bv]
def Ent.V (e : Ent) : List Value := imgV e.x e.bv ++ [e.av]
def Ent.key (e : Ent) : Nat := e.x.job
def nL (n : Nat) : DataW Unit := .lit (.int .i64 (n : Int))
def Ent.dat (e : Ent) : DataW Unit := .agg [.lit (.int .u32 (e.x.job : Int)), .lit (.int .u32 (e.x.ver : Int)), .lit (.int .i64 e.x.credit), nL e.bb, nL e.bo, nL e.x.blobs.length, nL e.bc, nL e.ab, nL e.ao, nL e.x.at'.length, nL e.ac]
/-- how an image in a map reads -/
def entR (v : Value) : Option (DataW Unit × List MemPlace) :=
  match v with
  | .agg xs => match xs.toList with
    | [.int .u32 a, .int .u32 b, .int .i64 c, .slice (some ⟨bb, bo, none⟩) bn bc, .slice (some ⟨ab, ao, none⟩) an ac] => some (.agg [.lit (.int .u32 a), .lit (.int .u32 b), .lit (.int .i64 c), nL bb, nL bo, nL bn, nL bc, nL ab, nL ao, nL an, nL ac], [])
    | [.int .u32 0, .int .u32 0, .int .i64 0, .slice none 0 0, .slice none 0 0] => some (.agg [], [])
    | _ => none
  | _ => none
theorem entR_zero : entR (.agg #[.int .u32 0, .int .u32 0, .int .i64 0, .slice none 0 0, .slice none 0 0]) = some (.agg [], []) := rfl
theorem entR_mk (e : Ent) : entR (.agg e.V.toArray) = some (e.dat, []) := rfl
theorem entR_inv {v : Value} {e : Ent} {ps : List MemPlace} (h : entR v = some (e.dat, ps)) : v = .agg e.V.toArray := by
  unfold entR at h
  split at h
  · rename_i xs
    split at h
    · rename_i a b c bb bo bn bc ab ao an ac hx
      simp only [Option.some.injEq, Prod.mk.injEq, Ent.dat, nL, DataW.agg.injEq, List.cons.injEq, DataW.lit.injEq, Lit.int.injEq, true_and, and_true] at h
      obtain ⟨⟨rfl, rfl, rfl, h1, h2, h3, h4, h5, h6, h7, h8⟩, _⟩ := h
      have h1 : bb = e.bb := by omega
      have h2 : bo = e.bo := by omega
      have h3 : bn = e.x.blobs.length := by omega
      have h4 : bc = e.bc := by omega
      have h5 : ab = e.ab := by omega
      have h6 : ao = e.ao := by omega
      have h7 : an = e.x.at'.length := by omega
      have h8 : ac = e.ac := by omega
      subst h1 h2 h3 h4 h5 h6 h7 h8
      have : xs = e.V.toArray := by rw [← Array.toArray_toList (xs := xs), hx]; rfl
      rw [this]
    · simp only [Option.some.injEq, Prod.mk.injEq, Ent.dat, nL, DataW.agg.injEq] at h
      cases h.1
    · cases h
  · cases h
theorem Ent.one (e : Ent) : ∀ u ∈ e.V, u.oneCell' = true := by
  intro u hu
  simp only [Ent.V, imgV, List.mem_append, List.mem_cons, List.not_mem_nil, or_false] at hu
  rcases hu with (rfl | rfl | rfl | rfl) | rfl <;> rfl
/-- its lists stand -/
def Ent.At (w : World) (Q : Nat → Prop) (e : Ent) : Prop := BL w Q e.bv e.x.blobs ∧ AL w Q e.av e.x.at'
theorem Ent.At.keep {S : List Nat} {w w' : World} {Q Q' : Nat → Prop} {e : Ent} (h : e.At w Q) (hc : Chg S w w') (hS : ∀ k ∈ S, ¬ Q k) (hQ : ∀ k, Q k → Q' k) : e.At w' Q' := ⟨h.1.keep hc hS hQ, h.2.keep hc hS hQ⟩
end Go.Proofs.YtoapibbbooongaaDoor

/- A store in memory. May it be done; what is free. -/
namespace Go.Proofs.YtoapibbbooongaaDoor
open Go.RowKit Go.Quad _root_.Quad _root_.Quad.Slab

/-- what each image of a store is -/
structure Img.In (x : Img) (n : Nat) : Prop where
  job : x.job < 4294967296
  ver : x.ver < 4294967296
  credit : 0 ≤ x.credit ∧ x.credit ≤ 10000
  few : 1 ≤ x.blobs.length ∧ x.blobs.length ≤ 16
  at' : x.at'.length = x.blobs.length + 1
  inn : ∀ p ∈ x.at', p < n
def stoV (g mb fg : Nat) (I : Im) : List Value := [.pointer (some ⟨g, 0, none⟩), .int .i64 (I.from' : Int), .int .i64 ((I.from' + I.used.length : Nat) : Int), .int .u32 (I.epoch : Int), .map (some mb), .pointer (some ⟨fg, 0, none⟩), .bool I.down]
structure IsSto (w : World) (B g c mb fg fd : Nat) (Q : Nat → Prop) (E : List Ent) (I : Im) : Prop where
  own : Blk w c (stoV g mb fg I) 94
  map : ∃ D, w.ownsMap Tryd.prog 31 entR mb (Maps.size D) D ∧ MapOf Ent.key Ent.dat D E
  free : IsMp w fg fd I.used
  lists : ∀ e ∈ E, e.At w Q
  L : E.map Ent.x = I.L
  sorted : E.Pairwise (fun a b => a.key < b.key)
  ok : ∀ e ∈ E, e.x.In I.used.length
  inQ : ∀ k, Q k → B ≤ k ∧ k < w.heap.size ∧ k ∉ [c, mb, fg, fd]
  lt : ∀ k ∈ [c, mb, fg, fd], B ≤ k ∧ k < w.heap.size
  apart : [c, mb, fg, fd].Nodup
  epoch : I.epoch < 4294967296
  small : I.from' + I.used.length ≤ 4096
theorem ownsMap_keep {S : List Nat} {w w' : World} {P : Program} {k : TypeId} {R : Value → Option (DataW Unit × List MemPlace)} {b n : Nat} {D : DataW Unit} (h : w.ownsMap P k R b n D) (hc : Chg S w w') (hb : b ∉ S) : w'.ownsMap P k R b n D := by
  obtain ⟨es, clock, hh, F, hn, e⟩ := h
  exact ⟨es, clock, by rw [hc.block b (Array.getElem?_eq_some_iff.1 hh).1 hb]; exact hh, F, hn, e⟩
theorem IsMp.keep {S : List Nat} {w w' : World} {g d : Nat} {m : List Bool} (h : IsMp w g d m) (hc : Chg S w w') (hg : g ∉ S) (hd : d ∉ S) : IsMp w' g d m := ⟨h.own.keep hc hg, h.row.keep hc hd, h.ne, h.few⟩
/-- nothing of it has changed -/
theorem IsSto.keep {S : List Nat} {w w' : World} {B g c mb fg fd : Nat} {Q : Nat → Prop} {E : List Ent} {I : Im} (h : IsSto w B g c mb fg fd Q E I) (hc : Chg S w w') (hS : ∀ k ∈ S, k ∉ [c, mb, fg, fd] ∧ ¬ Q k) : IsSto w' B g c mb fg fd Q E I := by
  have no : ∀ k ∈ [c, mb, fg, fd], k ∉ S := fun k hk hm => (hS k hm).1 hk
  obtain ⟨D, h1, h2⟩ := h.map
  exact ⟨h.own.keep hc (no c (by simp)), ⟨D, ownsMap_keep h1 hc (no mb (by simp)), h2⟩, h.free.keep hc (no fg (by simp)) (no fd (by simp)), fun e he => (h.lists e he).keep hc (fun k hk => (hS k hk).2) (fun _ h => h), h.L, h.sorted, h.ok,
    fun k hk => ⟨(h.inQ k hk).1, Nat.lt_of_lt_of_le (h.inQ k hk).2.1 hc.size, (h.inQ k hk).2.2⟩, fun k hk => ⟨(h.lt k hk).1, Nat.lt_of_lt_of_le (h.lt k hk).2 hc.size⟩, h.apart, h.epoch, h.small⟩
theorem IsSto.below {w w' : World} {B g c mb fg fd : Nat} {Q : Nat → Prop} {E : List Ent} {I : Im} (h : IsSto w B g c mb fg fd Q E I) (hb : Below w.heap.size w w') : IsSto w' B g c mb fg fd Q E I := h.keep (Chg.of_below [] hb) (by simp)
/-- the slab's image changes, the store is as it was -/
theorem IsSto.slab {w : World} {B g c mb fg fd : Nat} {Q : Nat → Prop} {E : List Ent} {I : Im} (h : IsSto w B g c mb fg fd Q E I) (s : Sl) : IsSto w B g c mb fg fd Q E { I with sl := s } :=
  ⟨h.own, h.map, h.free, h.lists, h.L, h.sorted, h.ok, h.inQ, h.lt, h.apart, h.epoch, h.small⟩
/-- one field is stored -/
theorem IsSto.down {w w' : World} {B g c mb fg fd : Nat} {Q : Nat → Prop} {E : List Ent} {I : Im} (h : IsSto w B g c mb fg fd Q E I) (b : Bool) (hc : Chg [c] w w') (hB : Blk w' c (stoV g mb fg { I with down := b }) 94) : IsSto w' B g c mb fg fd Q E { I with down := b } := by
  have nd := h.apart
  simp only [List.nodup_cons, List.mem_cons, List.not_mem_nil, or_false, not_or] at nd
  have no : ∀ k ∈ [mb, fg, fd], k ∉ [c] := by
    intro k hk hm
    simp only [List.mem_cons, List.not_mem_nil, or_false] at hk hm
    subst hm
    rcases hk with rfl | rfl | rfl
    · exact nd.1.1 rfl
    · exact nd.1.2.1 rfl
    · exact nd.1.2.2 rfl
  obtain ⟨D, h1, h2⟩ := h.map
  exact ⟨hB, ⟨D, ownsMap_keep h1 hc (no mb (by simp)), h2⟩, h.free.keep hc (no fg (by simp)) (no fd (by simp)), fun e he => (h.lists e he).keep hc (fun k hk hq => (h.inQ k hq).2.2 (by simp only [List.mem_singleton] at hk; subst hk; simp)) (fun _ h => h), h.L, h.sorted, h.ok,
    fun k hk => ⟨(h.inQ k hk).1, Nat.lt_of_lt_of_le (h.inQ k hk).2.1 hc.size, (h.inQ k hk).2.2⟩, fun k hk => ⟨(h.lt k hk).1, Nat.lt_of_lt_of_le (h.lt k hk).2 hc.size⟩, h.apart, h.epoch, h.small⟩

theorem nilready_calls (w : World) : Calls Tryd.prog 50 #[.pointer none] w fun e w' => e = .returned (.int .i64 6) ∧ w = w' := by
  go_enter Tryd.func50, Tryd.ntmps50
  go_wp2_with fail
  go_ret
  exact ⟨rfl, rfl⟩
theorem nilsleft_calls (w : World) : Calls Tryd.prog 27 #[.pointer none] w fun e w' => e = .returned (.int .i64 0) ∧ w = w' := by
  go_enter Tryd.func27, Tryd.ntmps27
  go_wp2_with fail
  go_ret
  exact ⟨rfl, rfl⟩
theorem sleft_calls (w : World) (B g c mb fg fd : Nat) (Q : Nat → Prop) (E : List Ent) (I : Im) (h : IsSto w B g c mb fg fd Q E I) :
    Calls Tryd.prog 27 #[.pointer (some ⟨c, 0, none⟩)] w fun e w' => e = .returned (.int .i64 (leftM I.used : Int)) ∧ w = w' := by
  have c5 := h.own.get 5 rfl
  have hL := left_calls w fg fd I.used h.free
  go_enter Tryd.func27, Tryd.ntmps27
  go_wp2_with fail
  refine hL.mono ?_
  rintro e w' ⟨rfl, rfl⟩
  dsimp only
  go_wp2_with fail
  go_ret
  exact ⟨rfl, rfl⟩
/-- what ready leaves -/
def ReadyTo (w : World) (B g c mb fg fd : Nat) (Q : Nat → Prop) (E : List Ent) (I : Im) (e : Ending) (w' : World) : Prop :=
  e = .returned (.int .i64 ((readyI I).2 : Int)) ∧ IsSto w' B g c mb fg fd Q E (readyI I).1 ∧ Chg [c] w w'
theorem ready_calls (w : World) (B g d : Nat) (wv : Value) (c mb fg fd : Nat) (Q : Nat → Prop) (E : List Ent) (I : Im) (hS : IsSlab w B g d wv I.sl) (h : IsSto w B g c mb fg fd Q E I) :
    Calls Tryd.prog 50 #[.pointer (some ⟨c, 0, none⟩)] w (ReadyTo w B g c mb fg fd Q E I) := by
  have c0 := h.own.get 0 rfl
  have c6 := h.own.get 6 rfl
  have f6 := h.own.free 6
  have H := hid h
  have ho := on_calls w B g d wv I.sl hS
  have HS := hid (h.own.set 6 (.bool true))
  unfold ReadyTo readyI
  cases hd : I.down
  · rw [hd] at c6
    cases hoff : I.sl.off
    · rw [hoff] at ho
      clear h hS
      go_enter Tryd.func50, Tryd.ntmps50
      go_wp2_with (go_at_call 45; refine ho.mono ?_; rintro e w' ⟨rfl, rfl⟩; dsimp only [Bool.not_false])
      go_ret
      exact ⟨rfl, H.out, Chg.refl _ _⟩
    · rw [hoff] at ho
      clear h hS
      go_enter Tryd.func50, Tryd.ntmps50
      go_wp2_with (go_at_call 45; refine ho.mono ?_; rintro e w' ⟨rfl, rfl⟩; dsimp only [Bool.not_true])
      go_ret
      exact ⟨rfl, H.out.down true (chg_setCell w c 6 _) HS.out, chg_setCell w c 6 _⟩
  · rw [hd] at c6
    clear h hS ho
    go_enter Tryd.func50, Tryd.ntmps50
    go_wp2_with fail
    go_ret
    exact ⟨rfl, H.out.down true (chg_setCell w c 6 _) HS.out, chg_setCell w c 6 _⟩
end Go.Proofs.YtoapibbbooongaaDoor
