/- A store in memory. May it be done; what is free. -/
import Derived.Test.YtoapibbbooongaaDoorImgQ
import Derived.Test.YtoapibbbooongaaDoorImgA
import Derived.Test.YtoapibbbooongaaDoorBlkM
import Derived.Test.YtoapibbbooongaaDoorSlabG
namespace Go.Proofs.YtoapibbbooongaaDoor
open Go.RowKit Go.Quad _root_.Quad _root_.Quad.Slab

/-- what each image of a store is -/
structure Img.In (x : Img) (n : Nat) : Prop where
  job : x.job < 4294967296
  ver : x.ver < 4294967296
  credit : 0 ≤ x.credit ∧ x.credit ≤ 10000
  few : 1 ≤ x.blobs.length ∧ x.blobs.length ≤ 16
  at' : x.at'.length = x.blobs.length + 1
  inn : ∀ p ∈ x.at', p < n
def stoV (g mb fg : Nat) (I : Im) : List Value := [.pointer (some ⟨g, 0, none⟩), .int .i64 (I.from' : Int), .int .i64 ((I.from' + I.used.length : Nat) : Int), .int .u32 (I.epoch : Int), .map (some mb), .pointer (some ⟨fg, 0, none⟩), .bool I.down]
structure IsSto (w : World) (B g c mb fg fd : Nat) (Q : Nat → Prop) (E : List Ent) (I : Im) : Prop where
  own : Blk w c (stoV g mb fg I) 94
  map : ∃ D, w.ownsMap Tryd.prog 31 entR mb (Maps.size D) D ∧ MapOf Ent.key Ent.dat D E
  free : IsMp w fg fd I.used
  lists : ∀ e ∈ E, e.At w Q
  L : E.map Ent.x = I.L
  sorted : E.Pairwise (fun a b => a.key < b.key)
  ok : ∀ e ∈ E, e.x.In I.used.length
  inQ : ∀ k, Q k → B ≤ k ∧ k < w.heap.size ∧ k ∉ [c, mb, fg, fd]
  lt : ∀ k ∈ [c, mb, fg, fd], B ≤ k ∧ k < w.heap.size
  apart : [c, mb, fg, fd].Nodup
  epoch : I.epoch < 4294967296
  small : I.from' + I.used.length ≤ 4096
theorem ownsMap_keep {S : List Nat} {w w' : World} {P : Program} {k : TypeId} {R : Value → Option (DataW Unit × List MemPlace)} {b n : Nat} {D : DataW Unit} (h : w.ownsMap P k R b n D) (hc : Chg S w w') (hb : b ∉ S) : w'.ownsMap P k R b n D := by
  obtain ⟨es, clock, hh, F, hn, e⟩ := h
  exact ⟨es, clock, by rw [hc.block b (Array.getElem?_eq_some_iff.1 hh).1 hb]; exact hh, F, hn, e⟩
theorem IsMp.keep {S : List Nat} {w w' : World} {g d : Nat} {m : List Bool} (h : IsMp w g d m) (hc : Chg S w w') (hg : g ∉ S) (hd : d ∉ S) : IsMp w' g d m := ⟨h.own.keep hc hg, h.row.keep hc hd, h.ne, h.few⟩
/-- nothing of it has changed -/
theorem IsSto.keep {S : List Nat} {w w' : World} {B g c mb fg fd : Nat} {Q : Nat → Prop} {E : List Ent} {I : Im} (h : IsSto w B g c mb fg fd Q E I) (hc : Chg S w w') (hS : ∀ k ∈ S, k ∉ [c, mb, fg, fd] ∧ ¬ Q k) : IsSto w' B g c mb fg fd Q E I := by
  have no : ∀ k ∈ [c, mb, fg, fd], k ∉ S := fun k hk hm => (hS k hm).1 hk
  obtain ⟨D, h1, h2⟩ := h.map
  exact ⟨h.own.keep hc (no c (by simp)), ⟨D, ownsMap_keep h1 hc (no mb (by simp)), h2⟩, h.free.keep hc (no fg (by simp)) (no fd (by simp)), fun e he => (h.lists e he).keep hc (fun k hk => (hS k hk).2) (fun _ h => h), h.L, h.sorted, h.ok,
    fun k hk => ⟨(h.inQ k hk).1, Nat.lt_of_lt_of_le (h.inQ k hk).2.1 hc.size, (h.inQ k hk).2.2⟩, fun k hk => ⟨(h.lt k hk).1, Nat.lt_of_lt_of_le (h.lt k hk).2 hc.size⟩, h.apart, h.epoch, h.small⟩
theorem IsSto.below {w w' : World} {B g c mb fg fd : Nat} {Q : Nat → Prop} {E : List Ent} {I : Im} (h : IsSto w B g c mb fg fd Q E I) (hb : Below w.heap.size w w') : IsSto w' B g c mb fg fd Q E I := h.keep (Chg.of_below [] hb) (by simp)
/-- the slab's image changes, the store is as it was -/
theorem IsSto.slab {w : World} {B g c mb fg fd : Nat} {Q : Nat → Prop} {E : List Ent} {I : Im} (h : IsSto w B g c mb fg fd Q E I) (s : Sl) : IsSto w B g c mb fg fd Q E { I with sl := s } :=
  ⟨h.own, h.map, h.free, h.lists, h.L, h.sorted, h.ok, h.inQ, h.lt, h.apart, h.epoch, h.small⟩
/-- one field is stored -/
theorem IsSto.down {w w' : World} {B g c mb fg fd : Nat} {Q : Nat → Prop} {E : List Ent} {I : Im} (h : IsSto w B g c mb fg fd Q E I) (b : Bool) (hc : Chg [c] w w') (hB : Blk w' c (stoV g mb fg { I with down := b }) 94) : IsSto w' B g c mb fg fd Q E { I with down := b } := by
  have nd := h.apart
  simp only [List.nodup_cons, List.mem_cons, List.not_mem_nil, or_false, not_or] at nd
  have no : ∀ k ∈ [mb, fg, fd], k ∉ [c] := by
    intro k hk hm
    simp only [List.mem_cons, List.not_mem_nil, or_false] at hk hm
    subst hm
    rcases hk with rfl | rfl | rfl
    · exact nd.1.1 rfl
    · exact nd.1.2.1 rfl
    · exact nd.1.2.2 rfl
  obtain ⟨D, h1, h2⟩ := h.map
  exact ⟨hB, ⟨D, ownsMap_keep h1 hc (no mb (by simp)), h2⟩, h.free.keep hc (no fg (by simp)) (no fd (by simp)), fun e he => (h.lists e he).keep hc (fun k hk hq => (h.inQ k hq).2.2 (by simp only [List.mem_singleton] at hk; subst hk; simp)) (fun _ h => h), h.L, h.sorted, h.ok,
    fun k hk => ⟨(h.inQ k hk).1, Nat.lt_of_lt_of_le (h.inQ k hk).2.1 hc.size, (h.inQ k hk).2.2⟩, fun k hk => ⟨(h.lt k hk).1, Nat.lt_of_lt_of_le (h.lt k hk).2 hc.size⟩, h.apart, h.epoch, h.small⟩

theorem nilready_calls (w : World) : Calls Tryd.prog 50 #[.pointer none] w fun e w' => e = .returned (.int .i64 6) ∧ w = w' := by
  go_enter Tryd.func50, Tryd.ntmps50
  go_wp2_with fail
  go_ret
  exact ⟨rfl, rfl⟩
theorem nilsleft_calls (w : World) : Calls Tryd.prog 27 #[.pointer none] w fun e w' => e = .returned (.int .i64 0) ∧ w = w' := by
  go_enter Tryd.func27, Tryd.ntmps27
  go_wp2_with fail
  go_ret
  exact ⟨rfl, rfl⟩
theorem sleft_calls (w : World) (B g c mb fg fd : Nat) (Q : Nat → Prop) (E : List Ent) (I : Im) (h : IsSto w B g c mb fg fd Q E I) :
    Calls Tryd.prog 27 #[.pointer (some ⟨c, 0, none⟩)] w fun e w' => e = .returned (.int .i64 (leftM I.used : Int)) ∧ w = w' := by
  have c5 := h.own.get 5 rfl
  have hL := left_calls w fg fd I.used h.free
  go_enter Tryd.func27, Tryd.ntmps27
  go_wp2_with fail
  refine hL.mono ?_
  rintro e w' ⟨rfl, rfl⟩
  dsimp only
  go_wp2_with fail
  go_ret
  exact ⟨rfl, rfl⟩
/-- what ready leaves -/
def ReadyTo (w : World) (B g c mb fg fd : Nat) (Q : Nat → Prop) (E : List Ent) (I : Im) (e : Ending) (w' : World) : Prop :=
  e = .returned (.int .i64 ((readyI I).2 : Int)) ∧ IsSto w' B g c mb fg fd Q E (readyI I).1 ∧ Chg [c] w w'
theorem ready_calls (w : World) (B g d : Nat) (wv : Value) (c mb fg fd : Nat) (Q : Nat → Prop) (E : List Ent) (I : Im) (hS : IsSlab w B g d wv I.sl) (h : IsSto w B g c mb fg fd Q E I) :
    Calls Tryd.prog 50 #[.pointer (some ⟨c, 0, none⟩)] w (ReadyTo w B g c mb fg fd Q E I) := by
  have c0 := h.own.get 0 rfl
  have c6 := h.own.get 6 rfl
  have f6 := h.own.free 6
  have H := hid h
  have ho := on_calls w B g d wv I.sl hS
  have HS := hid (h.own.set 6 (.bool true))
  unfold ReadyTo readyI
  cases hd : I.down
  · rw [hd] at c6
    cases hoff : I.sl.off
    · rw [hoff] at ho
      clear h hS
      go_enter Tryd.func50, Tryd.ntmps50
      go_wp2_with (go_at_call 45; refine ho.mono ?_; rintro e w' ⟨rfl, rfl⟩; dsimp only [Bool.not_false])
      go_ret
      exact ⟨rfl, H.out, Chg.refl _ _⟩
    · rw [hoff] at ho
      clear h hS
      go_enter Tryd.func50, Tryd.ntmps50
      go_wp2_with (go_at_call 45; refine ho.mono ?_; rintro e w' ⟨rfl, rfl⟩; dsimp only [Bool.not_true])
      go_ret
      exact ⟨rfl, H.out.down true (chg_setCell w c 6 _) HS.out, chg_setCell w c 6 _⟩
  · rw [hd] at c6
    clear h hS ho
    go_enter Tryd.func50, Tryd.ntmps50
    go_wp2_with fail
    go_ret
    exact ⟨rfl, H.out.down true (chg_setCell w c 6 _) HS.out, chg_setCell w c 6 _⟩
end Go.Proofs.YtoapibbbooongaaDoor
