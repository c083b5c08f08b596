/- The document's slab: a write. -/
import Derived.Test.YtoapibbbooongaaDoorRfA
namespace Go.Proofs.YtoapibbbooongaaDoor
open Go.RowKit Go.Quad _root_.Quad.Slab

/-- what a call leaves that writes to the document's slab -/
def RfTo (w : World) (F : Nat → Prop) (B g dn dc : Nat) (s' : Sl) (r : Nat) (e : Ending) (w' : World) : Prop :=
  ∃ wv', e = .returned (.int .i64 (r : Int)) ∧ IsRf w' (Fnew F w.heap.size w') B g dn dc wv' s' ∧ Chg [g, dn] w w'

theorem nilrput_calls (w : World) (i : Int) (a : Option Addr) (n cap : Nat) : Calls Tryd.prog 18 #[.pointer none, .int .i64 i, .slice a n cap] w fun e w' => e = .returned (.int .i64 6) ∧ w = w' := by
  go_enter Tryd.func18, Tryd.ntmps18
  go_wp2_with fail
  go_ret
  exact ⟨rfl, rfl⟩

theorem rputno_calls (w : World) (F : Nat → Prop) (B g dn dc : Nat) (wv : Value) (s : Sl) (i : Int) (a : Option Addr) (m cap : Nat) (h : IsRf w F B g dn dc wv s) (hi : -9223372036854775808 ≤ i ∧ i ≤ 9223372036854775807) (hm : m ≤ 9223372036854775807) (h0 : hasL s i m ≠ 0) :
    Calls Tryd.prog 18 #[.pointer (some ⟨g, 0, none⟩), .int .i64 i, .slice a m cap] w fun e w' => e = .returned (.int .i64 (hasL s i m : Int)) ∧ w = w' := by
  have c0 := h.own.get 0 rfl
  have c2 := h.own.get 2 rfl
  have hsm := h.ok.small
  clear h
  obtain ⟨done, way, off, armed, steps⟩ := s
  dsimp only at c0 c2 hsm
  unfold hasL at h0 ⊢
  dsimp only at h0 ⊢
  by_cases h1 : i < 0
  · rw [if_pos (.inl h1)]
    clear h0
    go_enter Tryd.func18, Tryd.ntmps18
    go_wp2_with fail
    go_ret
    exact ⟨rfl, rfl⟩
  · have h1' : decide (i < 0) = false := by simpa using h1
    by_cases h2 : (done.length : Int) ≤ i
    · rw [if_pos (.inr h2)]
      clear h0
      go_enter Tryd.func18, Tryd.ntmps18
      go_wp2_with fail
      go_ret
      exact ⟨rfl, rfl⟩
    · rw [if_neg (by omega)] at h0 ⊢
      by_cases h3 : 128 < m
      · rw [if_pos h3]
        have h3' : (128 : Int) < (m : Int) := by omega
        clear h3 h0
        go_enter Tryd.func18, Tryd.ntmps18
        go_wp2_with fail
        go_ret
        exact ⟨rfl, rfl⟩
      · rw [if_neg h3] at h0 ⊢
        have h3' : ¬ ((128 : Int) < (m : Int)) := by omega
        have ho : off = true := by cases off <;> simp at h0 ⊢
        subst ho
        clear h3 h0
        go_enter Tryd.func18, Tryd.ntmps18
        go_wp2_with fail
        go_ret
        exact ⟨rfl, rfl⟩

theorem IsRf.size {w : World} {F : Nat → Prop} {B g dn dc : Nat} {wv : Value} {s : Sl} (h : IsRf w F B g dn dc wv s) : B ≤ w.heap.size := by have := h.lt g h.inF.1; omega

/-- one write more under way -/
theorem rf_wrote {w0 w1 w5 : World} {F : Nat → Prop} {B g dn dc : Nat} {wv : Value} {s1 : Sl} (h : IsRf w1 F B g dn dc wv s1) (h01 : w0.heap.size ≤ w1.heap.size) (hF0 : ∀ k, F k → k < w0.heap.size) (hb : Below w1.heap.size w1 w5)
    (LW : List (Nat × Value × List UInt8)) (hwm : LW.map (fun x => (x.1, x.2.2)) = s1.way) (hws : ∀ x ∈ LW, SecAt w1 F g dn x.2.1 x.2.2)
    (k : Nat) (p : List UInt8) (a4 : Option Addr) (c4 : Nat) (hp : p.length = 128) (h4 : BS w5 a4 c4 p) (hf4 : ∀ x, a4 = some x → w1.heap.size ≤ x.block ∧ x.block < w5.heap.size)
    (a5 : Option Addr) (c5 : Nat) (h5 : CS w5 a5 c5 2 (LW.flatMap dW ++ dW (k, .slice a4 128 c4, p))) (hle5 : LW.length + 1 ≤ c5) (hf5 : ∀ x, a5 = some x → w1.heap.size ≤ x.block ∧ x.block < w5.heap.size)
    (hok : Ok { s1 with way := s1.way ++ [(k, p)] }) :
    IsRf (w5.setCell ⟨g, 1, none⟩ (.slice a5 (LW.length + 1) c5)) (Fnew F w0.heap.size (w5.setCell ⟨g, 1, none⟩ (.slice a5 (LW.length + 1) c5))) B g dn dc (.slice a5 (LW.length + 1) c5) { s1 with way := s1.way ++ [(k, p)] } := by
  have hgl := h.own.lt
  have hdl := (h.lt _ h.inF.2.1).2
  have hB0 : B ≤ w0.heap.size := by have := (h.lt _ h.inF.1).1; have := hF0 _ h.inF.1; omega
  have hsz : (w5.setCell ⟨g, 1, none⟩ (.slice a5 (LW.length + 1) c5)).heap.size = w5.heap.size := by simp [World.setCell]
  have hch : Chg [g] w5 (w5.setCell ⟨g, 1, none⟩ (.slice a5 (LW.length + 1) c5)) := chg_setCell w5 g 1 _
  have hc : Chg [g] w1 (w5.setCell ⟨g, 1, none⟩ (.slice a5 (LW.length + 1) c5)) := (Chg.of_below [g] hb).trans hch
  have hS : ∀ k ∈ [g], ¬ F k ∨ k = g ∨ k = dn := by simp
  have hFF : ∀ k, F k → Fnew F w0.heap.size (w5.setCell ⟨g, 1, none⟩ (.slice a5 (LW.length + 1) c5)) k := fun k hk => .inl hk
  have hB5 := (h.own.belowAt hb hgl).set 1 (.slice a5 (LW.length + 1) c5)
  simp only [List.set_cons_succ, List.set_cons_zero] at hB5
  obtain ⟨LD, h1, h2, h3⟩ := h.don
  have hnew : ∀ b, w1.heap.size ≤ b → b < w5.heap.size → Fnew F w0.heap.size (w5.setCell ⟨g, 1, none⟩ (.slice a5 (LW.length + 1) c5)) b ∧ b ≠ g ∧ b ≠ dn := fun b h1 h2 => ⟨.inr ⟨by omega, by omega⟩, by omega, by omega⟩
  have hsec : SecAt (w5.setCell ⟨g, 1, none⟩ (.slice a5 (LW.length + 1) c5)) (Fnew F w0.heap.size (w5.setCell ⟨g, 1, none⟩ (.slice a5 (LW.length + 1) c5))) g dn (.slice a4 128 c4) p := by
    obtain ⟨b, off, rfl, _⟩ := CS.at h4 (by simp [hp])
    obtain ⟨q1, q2⟩ := hf4 _ rfl
    obtain ⟨q3, q4, q5⟩ := hnew b q1 q2
    exact ⟨b, off, c4, rfl, cs_chg h4 hch (by rintro x ⟨⟩ hm; simp at hm; exact q4 hm), hp, q3, q4, q5⟩
  refine ⟨hB5, ⟨LD, ownsRow_chg h1 hc (fun k hk hm => ?_), h2, fun x hx => (h3 x hx).keep hc hS hFF⟩, ⟨a5, c5, LW ++ [(k, .slice a4 128 c4, p)], by simp, ?_, by simpa using hle5, by simp [hwm], ?_, .inr ?_⟩, hok, ⟨hFF _ h.inF.1, hFF _ h.inF.2.1, h.inF.2.2⟩, ?_⟩
  · simp [Value.ownBlock] at hk
    subst hk
    simp at hm
    exact h.inF.2.2 hm.symm
  · rw [List.flatMap_append, List.flatMap_singleton]
    refine cs_chgS h5 hch (.inr fun x hx hm => ?_)
    have := hf5 x hx
    simp at hm
    omega
  · intro x hx
    rcases List.mem_append.1 hx with hx | hx
    · exact (hws x hx).keep hc hS hFF
    · rw [List.mem_singleton] at hx; subst hx; exact hsec
  · obtain ⟨b, off, rfl, _⟩ := h5.at (by simp [dW])
    obtain ⟨q1, q2⟩ := hf5 _ rfl
    exact ⟨b, off, rfl, hnew b q1 q2⟩
  · intro q hq
    rcases hq with hq | hq
    · have h1 := h.lt q hq; have := hb.size; exact ⟨h1.1, by rw [hsz]; omega⟩
    · exact ⟨Nat.le_trans hB0 hq.1, hq.2⟩

set_option maxRecDepth 20000 in
set_option maxHeartbeats 1000000 in
theorem rput_calls (w : World) (F : Nat → Prop) (B g dn dc : Nat) (wv : Value) (s : Sl) (i : Int) (a : Option Addr) (cap : Nat) (t : List UInt8) (h : IsRf w F B g dn dc wv s) (hi : -9223372036854775808 ≤ i ∧ i ≤ 9223372036854775807) (ht : BS w a cap t) (hs : s.steps < 1000000) (hw : s.way.length < 1000000)
    (hoff : t = [] ∨ ∀ x, a = some x → x.block ≠ g) (h0 : hasL s i t.length = 0) :
    Calls Tryd.prog 18 #[.pointer (some ⟨g, 0, none⟩), .int .i64 i, .slice a t.length cap] w (RfTo w F B g dn dc (writeL s i t).1 (writeL s i t).2) := by
  have hlt : t.length ≤ 128 := hasL_short h0
  have hin := hasL_in h0
  have ho : s.off = false := by
    unfold hasL at h0
    rw [if_neg (by omega), if_neg (by omega)] at h0
    cases hh : s.off with
    | false => rfl
    | true => rw [hh] at h0; simp at h0
  obtain ⟨k, rfl⟩ : ∃ k : Nat, i = k := ⟨i.toNat, by omega⟩
  have hwl : writeL s (k : Int) t = ({ stepL s with way := s.way ++ [(k, pad t)] }, if (stepL s).off then 13 else 0) := by
    unfold writeL
    rw [if_neg (by rw [h0]; simp), Int.toNat_natCast]
  have hokw := hid (ok_write h.ok hs hw (k := k) (by omega) hlt)
  have Hwl := hid hwl
  have c0 := h.own.get 0 rfl
  have c2 := h.own.get 2 rfl
  rw [ho] at c2
  have mt := ht.max'
  have hlt' : ¬ ((128 : Int) < (t.length : Int)) := by omega
  have hk1 : ¬ ((k : Int) < 0) := by omega
  have hk2 : ¬ ((s.done.length : Int) ≤ (k : Int)) := by omega
  have H := hid h
  have T := hid ht
  have Hoff := hid hoff
  have Hs := hid hs
  have Ho := hid ho
  have Hw := hid hw
  have Hlt := hid hlt
  clear h ht hoff hs ho hwl hw h0 hlt
  go_enter Tryd.func18, Tryd.ntmps18
  go_wp2_with fail
  refine (rstep_calls w F B g dn dc wv s H.out Hs.out Ho.out).mono ?_
  rintro e w1 ⟨rfl, h1, hc1⟩
  clear c0 c2
  have T1 := hid (bs_keep T.out hc1 (Hoff.out.imp id fun h x hx hm => h x hx (by simpa using hm)))
  have H1 := hid h1
  have Hc1 := hid hc1
  obtain ⟨aw, cw, LW, rfl, hwc, hwle, hwm, hws, hwF⟩ := h1.way
  have c1 := h1.own.get 1 rfl
  have f1 := h1.own.free 1
  have hwlen : LW.length = s.way.length := by have := congrArg List.length hwm; rw [List.length_map] at this; exact this
  have Hwm := hid hwm
  have Hws := hid hws
  have Hwlen := hid hwlen
  have Hwc := hid hwc
  have hwle' := hwle
  clear h1 hc1 hwm hws hwF hwlen hwc
  obtain ⟨o, hoo⟩ : ∃ o, (stepL s).off = o := ⟨_, rfl⟩
  rw [hoo]
  have Hoo := hid hoo
  clear hoo
  have hgl : g < w1.heap.size := H1.out.own.lt
  have hw1 : LW.length ≤ 1000000 := by have := Hwlen.out; have := Hw.out; omega
  have e0 := hid (show t ++ List.replicate (128 - t.length) 0 = pad t from rfl)
  have ex : ∀ u ∈ LW.flatMap dW, u.oneCell' = true := by
    intro u hu
    obtain ⟨x, hx, hu⟩ := List.mem_flatMap.1 hu
    simp only [dW, List.mem_cons, List.not_mem_nil, or_false] at hu
    rcases hu with rfl | rfl
    · rfl
    · obtain ⟨b, off, c, e, _⟩ := Hws.out x hx; rw [e]; rfl
  have Ex := hid ex
  clear ex
  go_upto_region 11 with (first
    | (at_builtin; refine wpList_append_litE (.tmp 31) (.tmp 35) _ rfl rfl 119 _ 2 32 info_rway rfl (by decide) under_rways rfl Hwc.out (flat_length dW 2 dW_length LW) hwle' rfl Ex.out (by unfold maxLen; omega) (by omega) ?_; intro v2 w2 hr2 hb2; have R2 := hid hr2; have B2 := hid hb2; clear hr2 hb2)
    | (at_builtin; refine wpList_append_lit0 (.tmp 38) (.tmp 39) _ rfl rfl 5 info_u8 under_bytes rfl (T1.out.below B2.out) t.length rfl rfl (by have := Hlt.out; omega) ?_; intro v3 w3 ho3 hb3; have O3 := hid ho3; have B3 := hid hb3; clear ho3 hb3)
    | (at_builtin; refine wpList_append_zeros_b (.tmp 40) (.tmp 43) 33 3 rfl rfl w2.heap.size 5 .i64 info_u8 under_bytes (by kernel_rfl) _ t O3.out rfl (128 - t.length) (show _ = Value.int .i64 (((128 - t.length : Nat)) : Int) from congrArg (Value.int .i64) (by have := Hlt.out; omega)) (by have := Hlt.out; omega) B3.out.size ?_; intro v4 w4 ho4 hg4 hx4; have B4 := hid (B3.out.trans (grownBy_below hg4 B3.out.size O3.out.ownBlock)); rw [e0.out] at ho4; obtain ⟨a4, c4, e4, hbs4, hof4⟩ := ho4.bs; subst e4; have P4 := hid hbs4; have F4 := hid hof4; clear hbs4 hof4 ho4 hg4 hx4)
    | (at_builtin; refine wpList_append_row (.tmp 36) (.tmp 46) _ rfl rfl w1.heap.size 119 _ 2 32 info_rway rfl (by decide) under_rways v2 LW.length (LW.flatMap dW) rfl (ownsRow_chg (ownsRow_chg R2.out (Chg.of_below [] B4.out) (by simp)) (Chg.of_below [] (below_alloc w4 _)) (by simp)) rfl (news := dW (k, .slice a4 (pad t).length c4, pad t)) rfl (cs_lit w4 (dW (k, .slice a4 (pad t).length c4, pad t)) 119 1 2 rfl (by simp [maxLen])) (Nat.le_refl _) (by intro u hu; simp [dW] at hu; rcases hu with rfl | rfl <;> rfl) (by unfold maxLen; omega) (by omega) (by have := B2.out.size; have := B4.out.size; simp; omega) ?_; intro v5 w5 hr5 hb5 hg5; obtain ⟨a5, c5, e5, hle5, hcs5, hof5⟩ := ownsRow_cs hr5; subst e5; have B5 := hid ((B2.out.trans (B4.out.mono B2.out.size)).trans (((below_alloc w4 (.cells #[.int .i64 (k : Int), .slice a4 (pad t).length c4] 119)).mono (Nat.le_trans B2.out.size B4.out.size)).trans hb5)); have q1 := (H1.out.own.belowAt B5.out hgl).get 1 rfl; have qf := (H1.out.own.belowAt B5.out hgl).free 1; have R5 := hid (And.intro hcs5 (And.intro hle5 hof5)); have P5 := hid (cs_chg (BS.below P4.out (below_alloc w4 _)) (chg_grownBy hg5) (fun x hx hm => by have := (F4.out x hx).2.2.1; have := (World.ownsRow.lt R2.out x.block (by simpa using hm)).2; omega)); have L5 := hid (show w4.heap.size ≤ w5.heap.size from by have := hb5.size; simp at this; omega); clear hg5; clear hr5 hb5 hcs5 hle5 hof5))
  have hpl := pad_length Hlt.out
  have hr := rf_wrote (w0 := w) H1.out Hc1.out.size (fun q hq => (H.out.lt q hq).2) B5.out LW Hwm.out Hws.out k (pad t) a4 c4 hpl P5.out (fun x hx => by have := F4.out x hx; have := L5.out; have := B2.out.size; omega) a5 c5 (by have := R5.out.1; rw [hpl] at this; exact this) R5.out.2.1 (fun x hx => by have := R5.out.2.2 x hx; exact ⟨this.2.2.1, this.2.2.2⟩) hokw.out
  have hfo : Chg [g, dn] w (w5.setCell ⟨g, 1, none⟩ (.slice a5 (LW.length + 1) c5)) := ((Hc1.out.mono (by simp)).trans (Chg.of_below _ B5.out)).trans ((chg_setCell w5 g 1 _).mono (by simp))
  have Hfin := hid (And.intro hr hfo)
  have Hwl2 := hid (show writeL s (k : Int) t = ({ stepL s with way := s.way ++ [(k, pad t)] }, if o then 13 else 0) from Hwl.out.trans (by rw [← Hoo.out]))
  clear hr hfo q1 qf
  cases o
  all_goals
    go_wp2_with fail
    go_ret
    rw [Hwl2.out]
    exact ⟨_, rfl, Hfin.out⟩

/-- a write of the document's, of anything, anywhere -/
theorem rput_any (w : World) (F : Nat → Prop) (B g dn dc : Nat) (wv : Value) (s : Sl) (i : Int) (a : Option Addr) (cap : Nat) (t : List UInt8) (h : IsRf w F B g dn dc wv s) (hi : -9223372036854775808 ≤ i ∧ i ≤ 9223372036854775807) (ht : BS w a cap t) (hs : s.steps < 1000000) (hw : s.way.length < 1000000)
    (hoff : t = [] ∨ ∀ x, a = some x → x.block ≠ g) :
    Calls Tryd.prog 18 #[.pointer (some ⟨g, 0, none⟩), .int .i64 i, .slice a t.length cap] w (RfTo w F B g dn dc (writeL s i t).1 (writeL s i t).2) := by
  by_cases h0 : hasL s i t.length = 0
  · exact rput_calls w F B g dn dc wv s i a cap t h hi ht hs hw hoff h0
  · rw [show writeL s i t = (s, hasL s i t.length) from by unfold writeL; rw [if_pos h0]]
    refine (rputno_calls w F B g dn dc wv s i a t.length cap h hi ht.max' h0).mono ?_
    rintro e w' ⟨rfl, rfl⟩
    exact ⟨wv, rfl, h.new w.heap.size h.size, Chg.refl _ _⟩
end Go.Proofs.YtoapibbbooongaaDoor
