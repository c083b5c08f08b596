/- The walks of layer 8: who has an image. -/
import Derived.Test.YtoapibbbooongaaDoorKeysI
import Derived.Test.YtoapibbbooongaaDoorImgI
import Derived.Test.YtoapibbbooongaaDoorImgW
namespace Go.Proofs.YtoapibbbooongaaDoor
open Go.RowKit Go.Quad _root_.Quad _root_.Quad.Slab

def jobV' (x : Img) : List Value := [.int .u32 (x.job : Int)]
theorem jobV'_length (x : Img) : (jobV' x).length = 1 := rfl
theorem ids_sortedE {D : DataW Unit} {L : List Ent} {ss : List Int} (hk : KeysU D ss) (hM : MapOf Ent.key Ent.dat D L) (hp : L.Pairwise (fun a b => a.key < b.key)) : (ss.mergeSort fun x y => decide (x ≤ y)) = L.map fun j => (j.key : Int) := by
  have hnd : (L.map fun j => (j.key : Int)).Nodup := List.pairwise_map.2 (hp.imp fun h e => by omega)
  have hperm : ss.Perm (L.map fun j => (j.key : Int)) := (List.perm_ext_iff_of_nodup hk.1 hnd).2 fun x => by
    rw [hk.2.2 x, List.mem_map]
    constructor
    · intro h
      have hx := hk.2.1 x ((hk.2.2 x).2 h)
      obtain ⟨n, rfl⟩ := Int.eq_ofNat_of_zero_le hx.1
      have h2 : L.any (fun j => j.key == n) = true := by rw [← hM.has n]; exact h
      obtain ⟨j, hj, rfl⟩ := any_key.1 h2
      exact ⟨j, hj, rfl⟩
    · rintro ⟨j, hj, rfl⟩
      exact (hM.has j.key).trans (any_key.2 ⟨j, hj, rfl⟩)
  have tr : ∀ a b c : Int, (fun x y => decide (x ≤ y) : Int → Int → Bool) a b = true → (fun x y => decide (x ≤ y) : Int → Int → Bool) b c = true → (fun x y => decide (x ≤ y) : Int → Int → Bool) a c = true := fun a b c h1 h2 => by simp only [decide_eq_true_eq] at *; omega
  have tot : ∀ a b : Int, ((fun x y => decide (x ≤ y) : Int → Int → Bool) a b || (fun x y => decide (x ≤ y) : Int → Int → Bool) b a) = true := fun a b => by simp only [Bool.or_eq_true, decide_eq_true_eq]; omega
  refine List.Perm.eq_of_pairwise (le := fun a b => decide (a ≤ b) = true) (fun a b _ _ h1 h2 => ?_) (List.pairwise_mergeSort tr tot ss) (List.pairwise_map.2 (hp.imp fun h => by simp only [decide_eq_true_eq]; omega)) ((List.mergeSort_perm ss _).trans hperm)
  simp only [decide_eq_true_eq] at h1 h2
  omega
theorem flat_jobs (E : List Ent) : (E.map Ent.x).flatMap jobV' = (E.map fun j => (j.key : Int)).map encU := by
  induction E with
  | nil => rfl
  | cons x l ih => rw [List.map_cons, List.flatMap_cons, ih]; rfl
theorem own_slice {w : World} {B : Nat} {e : TypeId} {sz : Nat} {v : Value} {n : Nat} {xs : List Value} (h : w.ownsRow B e sz v n xs) : ∃ a c, v = .slice a n c := by
  obtain ⟨a, c, h1, _⟩ := ownsRow_cs h
  exact ⟨a, c, h1⟩
set_option maxRecDepth 100000 in
set_option maxHeartbeats 2000000 in
theorem nillist_calls (w : World) : Calls Tryd.prog 23 #[.pointer none] w fun e w' => e = .returned (.slice none 0 0) ∧ w = w' := by
  go_enter Tryd.func23, Tryd.ntmps23
  go_wp2_with fail
  go_ret
  exact ⟨rfl, rfl⟩
def ListTo (w : World) (L : List Img) (e : Ending) (w' : World) : Prop := ∃ a c, e = .returned (.slice a L.length c) ∧ RO jobV' 1 w' w.heap.size 31 (.slice a L.length c) L ∧ Below w.heap.size w w'
set_option maxRecDepth 100000 in
set_option maxHeartbeats 2000000 in
theorem list_calls (w : World) (B g c mb fg fd : Nat) (Q : Nat → Prop) (E : List Ent) (I : Im) (h : IsSto w B g c mb fg fd Q E I) (hn : I.L.length ≤ 1000000) :
    Calls Tryd.prog 23 #[.pointer (some ⟨c, 0, none⟩)] w (ListTo w I.L) := by
  have c4 := h.own.get 4 rfl
  obtain ⟨D, hD, hM⟩ := h.map
  have hEl : E.length = I.L.length := by rw [← h.L, List.length_map]
  have HI := hid (show Calls Tryd.prog 63 #[.func (.func 95) #[] #[.pointer (some ⟨w.heap.size, 0, none⟩)]] (w.alloc (.cells #[.map (some mb)] 90)) (ListTo w I.L) from by
    refine (sortedKeys_calls mb _ D w _ rfl hD (by rw [hM.size]; omega)).mono ?_
    rintro e w' ⟨v, ss, rfl, hk, hrow, hb⟩
    have hs := ids_sortedE hk hM h.sorted
    have hnl : ss.length = I.L.length := by have := congrArg List.length hs; rw [List.length_mergeSort, List.length_map] at this; omega
    rw [hs, hnl] at hrow
    obtain ⟨a, c, rfl⟩ := own_slice hrow
    refine ⟨a, c, rfl, ?_, (below_alloc w _).trans (hb.mono (by simp))⟩
    have : RO jobV' 1 w' (w.alloc (.cells #[.map (some mb)] 90)).heap.size 31 (.slice a I.L.length c) I.L := by
      unfold RO
      rw [← h.L, flat_jobs, List.length_map] at *
      rw [hEl] at *
      exact hrow
    exact this.base' (by simp))
  clear h hD hM hEl
  go_enter Tryd.func23, Tryd.ntmps23
  go_wp2_with (first | (go_at_call 63; go_loud (refine HI.out.mono ?_; rintro e w2 ⟨a, c2, rfl, hr, hb⟩; have R2 := hid hr; have B2 := hid hb; clear hr hb)) | (go_at_call 64; go_loud (refine (keys_calls _ _).mono ?_; rintro e w1 ⟨rfl, rfl⟩)))
  go_ret
  exact ⟨a, c2, rfl, R2.out, B2.out⟩
/-! in a law -/
theorem ls_drop (w0 w : World) (n g c : Nat) (I : Im) (job : Nat) (h : LS w0 n g c I w) (hj : job < 4294967296) (hs : I.sl.steps + 100 < 1000000) (hw : I.sl.way.length + 100 < 1000000) :
    Calls Tryd.prog 25 #[.pointer (some ⟨c, 0, none⟩), .int .u32 (job : Int)] w fun e w' => e = .returned (.int .i64 ((dropI I job).2 : Int)) ∧ LS w0 w'.heap.size g c (dropI I job).1 w' := by
  obtain ⟨h1, h2, d, wv, mb, fg, fd, Q, E, h3, h4, h5⟩ := h
  exact (idrop_calls w w0.heap.size g d wv c mb fg fd Q E I job h3 hj hs hw).mono fun e w' ht => StTo.ls h1 h3 ht
theorem ls_list (w0 w : World) (n g c : Nat) (I : Im) (h : LS w0 n g c I w) (hn : I.L.length ≤ 1000000) : Calls Tryd.prog 23 #[.pointer (some ⟨c, 0, none⟩)] w (ListTo w I.L) := by
  obtain ⟨h1, h2, d, wv, mb, fg, fd, Q, E, h3, h4, h5⟩ := h
  exact list_calls w w0.heap.size g c mb fg fd Q E I h3.sto hn
theorem ls_left (w0 w : World) (n g c : Nat) (I : Im) (h : LS w0 n g c I w) : Calls Tryd.prog 27 #[.pointer (some ⟨c, 0, none⟩)] w fun e w' => e = .returned (.int .i64 (leftM I.used : Int)) ∧ w = w' := by
  obtain ⟨h1, h2, d, wv, mb, fg, fd, Q, E, h3, h4, h5⟩ := h
  exact sleft_calls w w0.heap.size g c mb fg fd Q E I h3.sto
/-- a store that was made since w0, and a law's own blocks X beside it -/
def LX (w0 : World) (X : List Nat) (g c : Nat) (I : Im) (w : World) : Prop :=
  Below w0.heap.size w0 w ∧ (∀ x ∈ X, w0.heap.size ≤ x ∧ x < w.heap.size) ∧ ∃ d wv mb fg fd Q E, StAt w w0.heap.size g d wv c mb fg fd Q E I ∧ ∀ x ∈ X, x ∉ stS g d wv c mb fg fd ∧ ¬ Q x
theorem LX.of {w0 w : World} {n g c : Nat} {I : Im} (h : LS w0 n g c I w) : LX w0 [] g c I w := by
  obtain ⟨h1, h2, d, wv, mb, fg, fd, Q, E, h3, h4, h5⟩ := h
  exact ⟨h1, by simp, d, wv, mb, fg, fd, Q, E, h3, by simp⟩
theorem LX.below {w0 w w' : World} {X : List Nat} {g c : Nat} {I : Im} (h : LX w0 X g c I w) (hb : Below w.heap.size w w') : LX w0 X g c I w' := by
  obtain ⟨h1, h2, d, wv, mb, fg, fd, Q, E, h3, h4⟩ := h
  exact ⟨h1.trans (hb.mono h1.size), fun x hx => ⟨(h2 x hx).1, Nat.lt_of_lt_of_le (h2 x hx).2 hb.size⟩, d, wv, mb, fg, fd, Q, E, h3.below hb, h4⟩
theorem LX.more {w0 w w' : World} {X : List Nat} {g c : Nat} {I : Im} (h : LX w0 X g c I w) (hb : Below w.heap.size w w') (y : Nat) (hy : w.heap.size ≤ y ∧ y < w'.heap.size) : LX w0 (y :: X) g c I w' := by
  obtain ⟨h1, h2, d, wv, mb, fg, fd, Q, E, h3, h4⟩ := h
  refine ⟨h1.trans (hb.mono h1.size), fun x hx => ?_, d, wv, mb, fg, fd, Q, E, h3.below hb, fun x hx => ?_⟩
  · rcases List.mem_cons.1 hx with rfl | hx
    · exact ⟨Nat.le_trans h1.size hy.1, hy.2⟩
    · exact ⟨(h2 x hx).1, Nat.lt_of_lt_of_le (h2 x hx).2 hb.size⟩
  · rcases List.mem_cons.1 hx with rfl | hx
    · exact ⟨fun hm => by have := h3.lt _ hm; omega, fun hq => by have := (h3.sto.inQ _ hq).2.1; omega⟩
    · exact h4 x hx
theorem LX.other {w0 w w' : World} {X S : List Nat} {g c : Nat} {I : Im} (h : LX w0 X g c I w) (hc : Chg S w w') (hS : ∀ k ∈ S, k ∈ X) : LX w0 X g c I w' := by
  obtain ⟨h1, h2, d, wv, mb, fg, fd, Q, E, h3, h4⟩ := h
  have h5 : ∀ k ∈ S, k ∉ slS g d wv ∧ k ∉ [c, mb, fg, fd] ∧ ¬ Q k := fun k hk => ⟨fun hm => (h4 k (hS k hk)).1 (List.mem_append_left _ hm), fun hm => (h4 k (hS k hk)).1 (List.mem_append_right _ hm), (h4 k (hS k hk)).2⟩
  exact ⟨h1.trans (hc.below h1.size fun k hk => (h2 k (hS k hk)).1), fun x hx => ⟨(h2 x hx).1, Nat.lt_of_lt_of_le (h2 x hx).2 hc.size⟩, d, wv, mb, fg, fd, Q, E, ⟨h3.slab.chg hc fun k hk => (h5 k hk).1, h3.sto.keep hc fun k hk => (h5 k hk).2, h3.apart, h3.q⟩, h4⟩
theorem StTo.lx {w0 w w' : World} {X : List Nat} {g d : Nat} {wv : Value} {c mb fg fd : Nat} {Q : Nat → Prop} {E : List Ent} {I : Im} {r : Im × Nat} {e : Ending} (hb : Below w0.heap.size w0 w) (hX : ∀ x ∈ X, w0.heap.size ≤ x ∧ x < w.heap.size) (h : StAt w w0.heap.size g d wv c mb fg fd Q E I) (hno : ∀ x ∈ X, x ∉ stS g d wv c mb fg fd ∧ ¬ Q x) (ht : StTo w w0.heap.size g d wv c mb fg fd Q r e w') :
    e = .returned (.int .i64 (r.2 : Int)) ∧ LX w0 X g c r.1 w' ∧ ∀ x ∈ X, w'.heap[x]? = w.heap[x]? := by
  obtain ⟨wv', Q', E', e1, h1, h2, h3, h4⟩ := ht
  refine ⟨e1, ⟨hb.trans (h2.below hb.size h.ge), fun x hx => ⟨(hX x hx).1, Nat.lt_of_lt_of_le (hX x hx).2 h2.size⟩, d, wv', mb, fg, fd, Q', E', h1, fun x hx => ⟨fun hm => ?_, fun hq => ?_⟩⟩, fun x hx => h2.block x (hX x hx).2 (hno x hx).1⟩
  · rcases List.mem_append.1 hm with hm | hm
    · have : x ∈ slS g d wv ∨ w.heap.size ≤ x := by
        rcases slS_mem hm with rfl | rfl | hk
        · exact .inl (by simp [slS])
        · exact .inl (by simp [slS])
        · exact h3 x hk
      rcases this with h6 | h6
      · exact (hno x hx).1 (List.mem_append_left _ h6)
      · have := (hX x hx).2; omega
    · exact (hno x hx).1 (List.mem_append_right _ hm)
  · rcases h4 x hq with h6 | h6
    · exact (hno x hx).2 h6
    · have := (hX x hx).2; omega
theorem lx_put (w0 w : World) (X : List Nat) (g c : Nat) (I : Im) (x : Img) (ba : Option Addr) (bn bc : Nat) (h : LX w0 X g c I w) (hB : BL w (fun k => k ∈ X) (.slice ba bn bc) x.blobs) (hj : x.job < 4294967296) (hv : x.ver < 4294967296) (hc : -9223372036854775808 ≤ x.credit ∧ x.credit ≤ 9223372036854775807) (hq : Laid w0) (hs : I.sl.steps + 100 < 1000000) (hw : I.sl.way.length + 100 < 1000000) :
    Calls Tryd.prog 14 #[.pointer (some ⟨c, 0, none⟩), .agg (imgV x (.slice ba bn bc)).toArray] w fun e w' => e = .returned (.int .i64 ((putI I x).2 : Int)) ∧ LX w0 X g c (putI I x).1 w' ∧ ∀ x ∈ X, w'.heap[x]? = w.heap[x]? := by
  obtain ⟨h1, h2, d, wv, mb, fg, fd, Q, E, h3, h4⟩ := h
  exact (iput_calls w w0.heap.size g d wv c mb fg fd Q _ E I x ba bn bc h3 hB (fun k hk h => (h4 k h).1 hk) hj hv hc (hq.below h1 hq.1) hq.1 hs hw).mono fun e w' ht => StTo.lx h1 h2 h3 h4 ht
theorem lx_drop (w0 w : World) (X : List Nat) (g c : Nat) (I : Im) (job : Nat) (h : LX w0 X g c I w) (hj : job < 4294967296) (hs : I.sl.steps + 100 < 1000000) (hw : I.sl.way.length + 100 < 1000000) :
    Calls Tryd.prog 25 #[.pointer (some ⟨c, 0, none⟩), .int .u32 (job : Int)] w fun e w' => e = .returned (.int .i64 ((dropI I job).2 : Int)) ∧ LX w0 X g c (dropI I job).1 w' ∧ ∀ x ∈ X, w'.heap[x]? = w.heap[x]? := by
  obtain ⟨h1, h2, d, wv, mb, fg, fd, Q, E, h3, h4⟩ := h
  exact (idrop_calls w w0.heap.size g d wv c mb fg fd Q E I job h3 hj hs hw).mono fun e w' ht => StTo.lx h1 h2 h3 h4 ht
theorem lx_list (w0 w : World) (X : List Nat) (g c : Nat) (I : Im) (h : LX w0 X g c I w) (hn : I.L.length ≤ 1000000) : Calls Tryd.prog 23 #[.pointer (some ⟨c, 0, none⟩)] w (ListTo w I.L) := by
  obtain ⟨h1, h2, d, wv, mb, fg, fd, Q, E, h3, h4⟩ := h
  exact list_calls w w0.heap.size g c mb fg fd Q E I h3.sto hn
theorem lx_left (w0 w : World) (X : List Nat) (g c : Nat) (I : Im) (h : LX w0 X g c I w) : Calls Tryd.prog 27 #[.pointer (some ⟨c, 0, none⟩)] w fun e w' => e = .returned (.int .i64 (leftM I.used : Int)) ∧ w = w' := by
  obtain ⟨h1, h2, d, wv, mb, fg, fd, Q, E, h3, h4⟩ := h
  exact sleft_calls w w0.heap.size g c mb fg fd Q E I h3.sto
theorem lx_get2 (w0 w : World) (X : List Nat) (g c : Nat) (I : Im) (h : LX w0 X g c I w) (hsm : ∀ x ∈ I.L, ∀ b ∈ x.blobs, b.length ≤ 100000) (job : Nat) (hj : job < 4294967296) :
    Calls Tryd.prog 15 #[.pointer (some ⟨c, 0, none⟩), .int .u32 (job : Int)] w (GetTo2 w (findI I.L job)) := by
  obtain ⟨h1, h2, d, wv, mb, fg, fd, Q, E, h3, h4⟩ := h
  exact get2_calls w w0.heap.size g c mb fg fd Q E I h3.sto hsm job hj
theorem lx_get (w0 w : World) (X : List Nat) (g c : Nat) (I : Im) (h : LX w0 X g c I w) (hsm : ∀ x ∈ I.L, ∀ b ∈ x.blobs, b.length ≤ 100000) (job : Nat) (hj : job < 4294967296) :
    Calls Tryd.prog 15 #[.pointer (some ⟨c, 0, none⟩), .int .u32 (job : Int)] w (GetTo w (findI I.L job)) := by
  obtain ⟨h1, h2, d, wv, mb, fg, fd, Q, E, h3, h4⟩ := h
  exact get_calls w w0.heap.size g c mb fg fd Q E I h3.sto hsm job hj
end Go.Proofs.YtoapibbbooongaaDoor
