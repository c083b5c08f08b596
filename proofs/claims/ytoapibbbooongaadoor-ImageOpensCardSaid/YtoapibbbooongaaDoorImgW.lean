/- Layer 8 in a law: a store that the law has made; the document's example. -/
import Derived.Test.YtoapibbbooongaaDoorImgH
namespace Go.Proofs.YtoapibbbooongaaDoor
open Go.RowKit Go.Quad _root_.Quad _root_.Quad.Slab

/-- a store that was made since w0, its blocks ahead of n -/
def LS (w0 : World) (n g c : Nat) (I : Im) (w : World) : Prop :=
  Below w0.heap.size w0 w ∧ n ≤ w.heap.size ∧ ∃ d wv mb fg fd Q E, StAt w w0.heap.size g d wv c mb fg fd Q E I ∧ (∀ k ∈ stS g d wv c mb fg fd, k < n) ∧ ∀ k, Q k → k < n
theorem LS.below {w0 w w' : World} {n g c : Nat} {I : Im} (h : LS w0 n g c I w) (hb : Below w.heap.size w w') : LS w0 n g c I w' := by
  obtain ⟨h1, h2, d, wv, mb, fg, fd, Q, E, h3, h4, h5⟩ := h
  exact ⟨h1.trans (hb.mono h1.size), Nat.le_trans h2 hb.size, d, wv, mb, fg, fd, Q, E, h3.below hb, h4, h5⟩
theorem LS.more {w0 w : World} {n m g c : Nat} {I : Im} (h : LS w0 n g c I w) (hn : n ≤ m) (hm : m ≤ w.heap.size) : LS w0 m g c I w := by
  obtain ⟨h1, h2, d, wv, mb, fg, fd, Q, E, h3, h4, h5⟩ := h
  exact ⟨h1, hm, d, wv, mb, fg, fd, Q, E, h3, fun k hk => Nat.lt_of_lt_of_le (h4 k hk) hn, fun k hk => Nat.lt_of_lt_of_le (h5 k hk) hn⟩
theorem LS.slab {w0 w : World} {n g c : Nat} {I : Im} (h : LS w0 n g c I w) : SA w0 g I.sl w := by
  obtain ⟨h1, h2, d, wv, mb, fg, fd, Q, E, h3, h4, h5⟩ := h
  exact ⟨⟨d, wv, h3.slab⟩, h1⟩
theorem StTo.ls {w0 w w' : World} {g d : Nat} {wv : Value} {c mb fg fd : Nat} {Q : Nat → Prop} {E : List Ent} {I : Im} {r : Im × Nat} {e : Ending} (hb : Below w0.heap.size w0 w) (h : StAt w w0.heap.size g d wv c mb fg fd Q E I) (ht : StTo w w0.heap.size g d wv c mb fg fd Q r e w') : e = .returned (.int .i64 (r.2 : Int)) ∧ LS w0 w'.heap.size g c r.1 w' := by
  obtain ⟨wv', Q', E', e1, h1, h2, h3, h4⟩ := ht
  exact ⟨e1, hb.trans (h2.below hb.size h.ge), Nat.le_refl _, d, wv', mb, fg, fd, Q', E', h1, h1.lt, fun k hk => (h1.sto.inQ k hk).2.1⟩
theorem ls_put (w0 w : World) (n g c : Nat) (I : Im) (x : Img) (ba : Option Addr) (bn bc : Nat) (h : LS w0 n g c I w) (hB : BL w (fun k => n ≤ k) (.slice ba bn bc) x.blobs) (hj : x.job < 4294967296) (hv : x.ver < 4294967296) (hc : -9223372036854775808 ≤ x.credit ∧ x.credit ≤ 9223372036854775807) (hq : Laid w0) (hs : I.sl.steps + 100 < 1000000) (hw : I.sl.way.length + 100 < 1000000) :
    Calls Tryd.prog 14 #[.pointer (some ⟨c, 0, none⟩), .agg (imgV x (.slice ba bn bc)).toArray] w fun e w' => e = .returned (.int .i64 ((putI I x).2 : Int)) ∧ LS w0 w'.heap.size g c (putI I x).1 w' := by
  obtain ⟨h1, h2, d, wv, mb, fg, fd, Q, E, h3, h4, h5⟩ := h
  exact (iput_calls w w0.heap.size g d wv c mb fg fd Q _ E I x ba bn bc h3 hB (fun k hk h => by have := h4 k hk; omega) hj hv hc (hq.below h1 hq.1) hq.1 hs hw).mono fun e w' ht => StTo.ls h1 h3 ht
theorem ls_get (w0 w : World) (n g c : Nat) (I : Im) (h : LS w0 n g c I w) (hsm : ∀ x ∈ I.L, ∀ b ∈ x.blobs, b.length ≤ 100000) (job : Nat) (hj : job < 4294967296) :
    Calls Tryd.prog 15 #[.pointer (some ⟨c, 0, none⟩), .int .u32 (job : Int)] w (GetTo w (findI I.L job)) := by
  obtain ⟨h1, h2, d, wv, mb, fg, fd, Q, E, h3, h4, h5⟩ := h
  exact get_calls w w0.heap.size g c mb fg fd Q E I h3.sto hsm job hj
theorem IsSto.base {w : World} {B B' g c mb fg fd : Nat} {Q : Nat → Prop} {E : List Ent} {I : Im} (h : IsSto w B g c mb fg fd Q E I) (hb : B' ≤ B) : IsSto w B' g c mb fg fd Q E I :=
  ⟨h.own, h.map, h.free, h.lists, h.L, h.sorted, h.ok, fun k hk => ⟨Nat.le_trans hb (h.inQ k hk).1, (h.inQ k hk).2⟩, fun k hk => ⟨Nat.le_trans hb (h.lt k hk).1, (h.lt k hk).2⟩, h.apart, h.epoch, h.small⟩
theorem ls_open (w0 w : World) (g : Nat) (s : Sl) (a b : Int) (ep : Nat) (I : Im) (h : SA w0 g s w) (hq : Laid w0) (ha : -9223372036854775808 ≤ a ∧ a ≤ 9223372036854775807) (hb : -9223372036854775808 ≤ b ∧ b ≤ 9223372036854775807) (he : ep < 4294967296) (hsm : s.done.length ≤ 4096) (ho : openI s a b ep = (some I, 0)) :
    Calls Tryd.prog 13 #[.pointer (some ⟨g, 0, none⟩), .int .i64 a, .int .i64 b, .int .u32 (ep : Int)] w fun e w' => ∃ c, e = .returned (.tuple #[.pointer (some ⟨c, 0, none⟩), .int .i64 0]) ∧ LS w0 w'.heap.size g c I w' ∧ Below w.heap.size w w' := by
  obtain ⟨⟨d, wv, h1⟩, h2⟩ := h
  refine (open_calls w w0.heap.size g d wv s a b ep h1 ha hb he hsm (hq.below h2 hq.1)).mono fun e w' ht => ?_
  rw [ho] at ht
  obtain ⟨hb', c, mb, fg, fd, Q, E, e1, h3⟩ := ht
  have hsl : I.sl = s := by
    unfold openI at ho
    split at ho
    · cases ho
    · split at ho
      · cases ho
      · cases ho; rfl
  refine ⟨c, e1, ⟨h2.trans (hb'.mono h2.size), Nat.le_refl _, d, wv, mb, fg, fd, Q, E, ⟨?_, h3.base h2.size, fun k hk hm => ?_, fun k hk hq => ?_⟩, fun k hk => ?_, fun k hk => (h3.inQ k hk).2.1⟩, hb'⟩
  · rw [hsl]; exact h1.below hb'
  · have := (h3.lt k hk).1; have := (h1.in_ge k hm).2; omega
  · have := (h3.inQ k hq).1; have := (h1.in_ge k hk).2; omega
  · rcases List.mem_append.1 hk with hk | hk
    · exact Nat.lt_of_lt_of_le (h1.in_ge k hk).2 hb'.size
    · exact (h3.lt k hk).2
theorem getB_small (s : Sl) (i : Int) : (getB s i).1.data.length ≤ 104 := by
  unfold getB readB
  split
  · exact Nat.zero_le _
  · split
    · exact Nat.zero_le _
    · split
      · exact Nat.zero_le _
      · split
        · exact Nat.zero_le _
        · rename_i hn
          show ((List.drop 14 _).take _).length ≤ 104
          rw [List.length_take]
          omega
theorem there_small {s : Sl} {f n a : Nat} {x : Img} (h : thereI (seeG s f) n a = some x) : ∀ b ∈ x.blobs, b.length ≤ 104 := by
  obtain ⟨h0, h1, l, h2, rfl⟩ := there_some.1 h
  obtain ⟨hl, hb⟩ := blobsI_some.1 h2
  intro b hb2
  obtain ⟨j, hj, rfl⟩ := List.getElem_of_mem hb2
  have h3 := hb j (by rw [← hl]; exact hj)
  unfold blobI at h3
  split at h3
  · cases h3
  · split at h3
    · simp only [Option.some.injEq] at h3
      rw [List.getD_eq_getElem?_getD, List.getElem?_eq_getElem hj] at h3
      have h3 : _ = l[j] := h3
      show l[j].length ≤ 104
      rw [← h3, List.length_drop]
      have : (seeG s f (placeOf (seeG s f a).1.data j)).1.data.length ≤ 104 := getB_small s _
      omega
    · cases h3
/-- one text of one byte -/
theorem bl_one (w : World) (b : UInt8) : BL ((w.alloc (.cells #[u8v b] 5)).alloc (.cells #[.slice (some ⟨w.heap.size, 0, none⟩) 1 1] 33)) (fun k => w.heap.size ≤ k) (.slice (some ⟨w.heap.size + 1, 0, none⟩) 1 1) [[b]] := by
  have h1 := cs_lit w [u8v b] 5 1 1 rfl (by simp [maxLen])
  have h2 := cs_lit (w.alloc (.cells #[u8v b] 5)) [.slice (some ⟨w.heap.size, 0, none⟩) 1 1] 33 1 1 rfl (by simp [maxLen])
  have hz : (w.alloc (.cells #[u8v b] 5)).heap.size = w.heap.size + 1 := by simp
  rw [hz] at h2
  refine ⟨_, 1, [(.slice (some ⟨w.heap.size, 0, none⟩) 1 1, [b])], rfl, h2, rfl, fun x hx => ?_, fun x hx => by cases hx; dsimp only; omega⟩
  rw [List.mem_singleton] at hx
  subst hx
  exact ⟨_, 1, rfl, bs_keep (show BS _ _ 1 [b] from h1) (Chg.of_below [] (below_alloc _ _)) (.inr (by simp)), fun x hx => by cases hx; exact Nat.le_refl _⟩
/-! the document's example -/
def ax1 : Img := ⟨1, 1, 5, [[7]], []⟩
def ax2 : Img := ⟨1, 2, 9, [[8]], []⟩
theorem find_set {c : Im} {x : Img} (hi : Inv c) (h : Puts c x) : findI (putI c x).1.L x.job = some (placedI c x) := by
  obtain ⟨h1, _, _, _, h4, _⟩ := hi.put h
  rw [h4]
  exact find_key (setK_sorted Img.job _ hi.sorted) ((setK_mem Img.job _ hi.sorted _).2 (.inl rfl))
theorem set_one {c : Im} {x : Img} (hi : Inv c) (h : Puts c x) (hL : ∀ y ∈ c.L, y.job = x.job) : (putI c x).1.L = [placedI c x] := by
  obtain ⟨h1, _, _, _, h4, _⟩ := hi.put h
  rw [h4, setK_eq Img.job _ hi.sorted]
  have e1 : c.L.filter (fun y => decide (y.job < (placedI c x).job)) = [] := List.filter_eq_nil_iff.2 fun y hy => by have := hL y hy; rw [decide_eq_true_eq]; show ¬ y.job < x.job; omega
  have e2 : c.L.filter (fun y => decide ((placedI c x).job < y.job)) = [] := List.filter_eq_nil_iff.2 fun y hy => by have := hL y hy; rw [decide_eq_true_eq]; show ¬ x.job < y.job; omega
  rw [e1, e2]
  rfl
theorem awake_plain : ∃ I0 I1 I2 J, openI (newL 20) 2 20 1 = (some I0, 0) ∧ putI I0 ax1 = (I1, 0) ∧ putI I1 ax2 = (I2, 0) ∧ crashL I2.sl [] 0 = I2.sl ∧ openI I2.sl 2 20 2 = (some J, 0) ∧ findI J.L 1 = some (placedI I1 ax2) ∧ putI J ax2 = (J, 12) ∧
    I0.sl.steps = 0 ∧ I0.sl.way.length = 0 ∧ I1.sl.steps ≤ 19 ∧ I1.sl.way.length = 0 ∧ I2.sl.steps ≤ 38 ∧ I2.sl.way.length = 0 ∧ I2.sl.done.length = 20 ∧ J.sl = I2.sl ∧ (∀ x ∈ J.L, ∀ b ∈ x.blobs, b.length ≤ 100000) := by
  obtain ⟨h0, i0⟩ := open_new (n := 20) (f := 2) (t := 20) (e := 1) (by omega) (by omega) (by omega) (by omega)
  have l0 := left_none i0 rfl
  have p1 : Puts ⟨newL 20, 2, 1, [], List.replicate (20 - 2) false, false⟩ ax1 := ⟨by decide, by decide, by decide, fun y hy => (by cases hy), by rw [l0]; decide⟩
  obtain ⟨i1, c1, u1, f1, L1, s1, d1⟩ := i0.put p1
  have o1 := set_one i0 p1 (by simp)
  have fi1 := find_set i0 p1
  have fr1 := i1
  generalize hI0 : (⟨newL 20, 2, 1, [], List.replicate (20 - 2) false, false⟩ : Im) = I0 at *
  have hst0 : I0.sl.steps = 0 ∧ I0.sl.way.length = 0 ∧ I0.used.length = 18 ∧ I0.from' = 2 ∧ I0.sl.done.length = 20 := by subst hI0; exact ⟨rfl, rfl, by simp, rfl, by simp [newL]⟩
  obtain ⟨I1, hI1⟩ : ∃ I1, putI I0 ax1 = (I1, 0) := ⟨(putI I0 ax1).1, by rw [← c1]⟩
  rw [hI1] at i1 u1 f1 s1 d1 o1 fi1
  dsimp only at i1 u1 f1 s1 d1 o1 fi1
  have l1 := left_one i1 o1
  have p2 : Puts I1 ax2 := ⟨by decide, by decide, by decide, fun y hy => (by rw [show ax2.job = ax1.job from rfl, fi1] at hy; cases hy; exact (show (1 : Nat) < 2 by omega)), (by have : (placedI I0 ax1).blobs.length = 1 := rfl; have : ax2.blobs.length = 1 := rfl; omega)⟩
  obtain ⟨i2, c2, u2, f2, L2, s2, d2⟩ := i1.put p2
  have fi2 := find_set i1 p2
  obtain ⟨I2, hI2⟩ : ∃ I2, putI I1 ax2 = (I2, 0) := ⟨(putI I1 ax2).1, by rw [← c2]⟩
  rw [hI2] at i2 u2 f2 s2 d2 fi2
  dsimp only at i2 u2 f2 s2 d2 fi2
  have ho := i2.open' 2 (by omega)
  have e1 : (I2.from' : Int) = 2 := by omega
  have e2 : ((I2.from' + I2.used.length : Nat) : Int) = 20 := by omega
  rw [e1, e2] at ho
  have hf := i2.find 1
  have hfJ : findI (listI (seeG I2.sl I2.from') I2.used.length I2.used.length) 1 = some (placedI I1 ax2) := hf.trans fi2
  refine ⟨I0, I1, I2, _, h0, hI1, hI2, quiet_crash i2.quiet i2.way [] 0, ho, hfJ, ?_, hst0.1, hst0.2.1, by omega, by rw [i1.way]; rfl, by omega, by rw [i2.way]; rfl, by omega, rfl, fun x hx b hb => ?_⟩
  · exact putI_stale (by rw [i2.quiet.on]; simp) (by decide) hfJ (Nat.le_refl 2)
  · obtain ⟨a, ha, h⟩ := (lists (seeG I2.sl I2.from') I2.used.length I2.used.length).src x hx
    have := there_small h
    exact Nat.le_trans (this b hb) (by omega)
theorem loadLS (w0 w : World) (n g c : Nat) (I : Im) (h : LS w0 n g c I w) : LS w0 w.heap.size g c I w := h.more h.2.1 (Nat.le_refl _)
theorem sa_crash0 (w0 w : World) (g : Nat) (s : Sl) (h : SA w0 g s w) : Calls Tryd.prog 43 #[.pointer (some ⟨g, 0, none⟩), .slice none 0 0, .int .i64 0] w fun e w' => e = .returned (.int .i64 0) ∧ SA w0 g (crashL s [] 0) w' := by
  obtain ⟨⟨d, wv, h1⟩, h2⟩ := h
  exact (crash_calls w w0.heap.size g d wv s none 0 [] 0 h1 ⟨Nat.zero_le _, Nat.zero_le _, fun _ => rfl, .inl rfl⟩ (.inl rfl) (by decide)).mono fun e w' ht => SA.to h1 h2 ht
set_option maxRecDepth 100000 in
set_option maxHeartbeats 8000000 in
theorem iawake_calls (w : World) (hq : Laid w) : Calls Tryd.prog 11 #[] w fun e w' => e = .returned (.bool true) ∧ Below w.heap.size w w' := by
  obtain ⟨I0, I1, I2, J, ho1, hp1, hp2, hcr, ho2, hf, hp3, hs0, hw0, hs1, hw1, hs2, hw2, hd2, hJ, hsm⟩ := awake_plain
  have HQ := hid hq
  have HO1 := hid ho1
  have HP1 := hid hp1
  have HP2 := hid hp2
  have HCR := hid hcr
  have HO2 := hid ho2
  have HF := hid hf
  have HP3 := hid hp3
  have HSS := hid (And.intro hs0 (And.intro hw0 (And.intro hs1 (And.intro hw1 (And.intro hs2 (And.intro hw2 hd2))))))
  have HJ := hid hJ
  have HSM := hid hsm
  clear hq ho1 hp1 hp2 hcr ho2 hf hp3 hs0 hw0 hs1 hw1 hs2 hw2 hd2 hJ hsm
  go_enter Tryd.func11, Tryd.ntmps11
  go_upto_region 2 with (go_at_call 12; refine (sa_new w 20 (by decide)).mono ?_; rintro e w1 ⟨g, rfl, h1⟩; have S1 := hid h1; clear h1; dsimp only)
  go_upto_region 3 with (go_at_call 13; refine (ls_open w w1 g (newL 20) 2 20 1 I0 S1.out HQ.out (by decide) (by decide) (by decide) (by decide) HO1.out).mono ?_; rintro e w2 ⟨c, rfl, h2, hb2⟩; have L2 := hid h2; clear h2 hb2; dsimp only)
  have CP1 := hid fun (W : World) (hL : LS w W.heap.size g c I0 W) => (show Calls Tryd.prog 14 #[.pointer (some ⟨c, 0, none⟩), .agg #[.int .u32 1, .int .u32 1, .int .i64 5, .slice (some ⟨W.heap.size + 1, 0, none⟩) 1 1]] ((W.alloc (.cells #[.int .u8 7] 5)).alloc (.cells #[.slice (some ⟨W.heap.size, 0, none⟩) 1 1] 33)) (fun e w' => e = .returned (.int .i64 0) ∧ LS w w'.heap.size g c I1 w') from by
    have hb := (below_alloc W (.cells #[u8v 7] 5)).trans ((below_alloc (W.alloc (.cells #[u8v 7] 5)) (.cells #[.slice (some ⟨W.heap.size, 0, none⟩) 1 1] 33)).mono (below_alloc W _).size)
    have := ls_put w _ W.heap.size g c I0 ax1 _ _ _ (hL.below hb) (bl_one W 7) (by decide) (by decide) (by decide) HQ.out (by obtain ⟨a1, a2, a3, a4, a5, a6, a7⟩ := HSS.out; omega) (by obtain ⟨a1, a2, a3, a4, a5, a6, a7⟩ := HSS.out; omega)
    rw [HP1.out] at this
    exact this)
  have CP2 := hid fun (W : World) (hL : LS w W.heap.size g c I1 W) => (show Calls Tryd.prog 14 #[.pointer (some ⟨c, 0, none⟩), .agg #[.int .u32 1, .int .u32 2, .int .i64 9, .slice (some ⟨W.heap.size + 1, 0, none⟩) 1 1]] ((W.alloc (.cells #[.int .u8 8] 5)).alloc (.cells #[.slice (some ⟨W.heap.size, 0, none⟩) 1 1] 33)) (fun e w' => e = .returned (.int .i64 0) ∧ LS w w'.heap.size g c I2 w') from by
    have hb := (below_alloc W (.cells #[u8v 8] 5)).trans ((below_alloc (W.alloc (.cells #[u8v 8] 5)) (.cells #[.slice (some ⟨W.heap.size, 0, none⟩) 1 1] 33)).mono (below_alloc W _).size)
    have := ls_put w _ W.heap.size g c I1 ax2 _ _ _ (hL.below hb) (bl_one W 8) (by decide) (by decide) (by decide) HQ.out (by obtain ⟨a1, a2, a3, a4, a5, a6, a7⟩ := HSS.out; omega) (by obtain ⟨a1, a2, a3, a4, a5, a6, a7⟩ := HSS.out; omega)
    rw [HP2.out] at this
    exact this)
  go_upto_region 5 with (first
    | (go_at_call 14; refine (CP2.out w3 L3.out).mono ?_; rintro e w4 ⟨rfl, h4⟩; have L4 := hid h4; clear h4; dsimp only)
    | (go_at_call 14; refine (CP1.out w2 L2.out).mono ?_; rintro e w3 ⟨rfl, h3⟩; have L3 := hid h3; clear h3; dsimp only))
  have hC := hid (sa_crash0 w w4 g I2.sl L4.out.slab)
  rw [HCR.out] at hC
  go_upto_region 6 with (go_at_call 43; refine hC.out.mono ?_; rintro e w5 ⟨rfl, h5⟩; have S5 := hid h5; clear h5; dsimp only)
  have hs20 := HSS.out.2.2.2.2.2.2
  go_upto_region 7 with (go_at_call 13; refine (ls_open w w5 g I2.sl 2 20 2 J S5.out HQ.out (by decide) (by decide) (by decide) (by omega) HO2.out).mono ?_; rintro e w6 ⟨c6, rfl, h6, hb6⟩; have L6 := hid h6; clear h6 hb6; dsimp only)
  have hG := hid (ls_get w w6 w6.heap.size g c6 J L6.out HSM.out 1 (by decide))
  rw [HF.out] at hG
  have hG2 := hid (show Calls Tryd.prog 15 #[.pointer (some ⟨c6, 0, none⟩), .int .u32 1] w6 (fun e w' => Below w6.heap.size w6 w' ∧ ∃ a n c, e = .returned (.tuple #[.agg #[.int .u32 1, .int .u32 2, .int .i64 9, .slice a n c], .int .i64 0])) from
    hG.out.mono fun e w' ⟨hb7, ts, bv, he, hts, htx⟩ => by
      obtain ⟨a7, n7, c7, hbe, _, _, _⟩ := htx.rb.cs
      subst hbe
      exact ⟨hb7, a7, n7, c7, he⟩)
  clear hG
  have CP3 := hid fun (W : World) (hL : LS w W.heap.size g c6 J W) => (show Calls Tryd.prog 14 #[.pointer (some ⟨c6, 0, none⟩), .agg #[.int .u32 1, .int .u32 2, .int .i64 9, .slice (some ⟨W.heap.size + 1, 0, none⟩) 1 1]] ((W.alloc (.cells #[.int .u8 8] 5)).alloc (.cells #[.slice (some ⟨W.heap.size, 0, none⟩) 1 1] 33)) (fun e w' => e = .returned (.int .i64 12) ∧ LS w w'.heap.size g c6 J w') from by
    have hb := (below_alloc W (.cells #[u8v 8] 5)).trans ((below_alloc (W.alloc (.cells #[u8v 8] 5)) (.cells #[.slice (some ⟨W.heap.size, 0, none⟩) 1 1] 33)).mono (below_alloc W _).size)
    have := ls_put w _ W.heap.size g c6 J ax2 _ _ _ (hL.below hb) (bl_one W 8) (by decide) (by decide) (by decide) HQ.out (by rw [HJ.out]; obtain ⟨a1, a2, a3, a4, a5, a6, a7⟩ := HSS.out; omega) (by rw [HJ.out]; obtain ⟨a1, a2, a3, a4, a5, a6, a7⟩ := HSS.out; omega)
    rw [HP3.out] at this
    exact this)
  go_upto_region 8 with (go_at_call 15; refine hG2.out.mono ?_; rintro e w7 ⟨hb7, a7, n7, c7, rfl⟩; have L7 := hid (L6.out.below hb7); clear hb7; dsimp only)
  have b8 := below_alloc w7 (.cells #[.int .u32 1, .int .u32 2, .int .i64 9, .slice a7 n7 c7] 36)
  have x8 := blk_alloc w7 [.int .u32 1, .int .u32 2, .int .i64 9, .slice a7 n7 c7] 36
  have L8 := hid (loadLS _ _ _ _ _ _ (L7.out.below b8))
  obtain ⟨q8, hq8⟩ : ∃ q8, w7.heap.size = q8 := ⟨_, rfl⟩
  rw [hq8] at x8 ⊢
  have k1 := x8.get 1 rfl
  have k2 := x8.get 2 rfl
  clear b8 x8 hq8 CP1 CP2
  generalize (w7.alloc (.cells #[.int .u32 1, .int .u32 2, .int .i64 9, .slice a7 n7 c7] 36)) = w8 at L8 k1 k2 ⊢
  go_wp2_with (go_at_call 14; refine (CP3.out w8 L8.out).mono ?_; rintro e w9 ⟨rfl, h9⟩; have L9 := hid h9; clear h9; dsimp only)
  go_ret
  exact ⟨rfl, L9.out.1⟩
end Go.Proofs.YtoapibbbooongaaDoor
