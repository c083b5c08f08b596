/- A scroll in memory; the walks of layer 7 that only look: its epoch, its snapshot, its records, how many places. -/
import Derived.Test.YtoapibbbooongaaDoorScrC
import Derived.BigQuiet
namespace Go.Proofs.YtoapibbbooongaaDoor
open Go.RowKit Go.Quad _root_.Quad _root_.Quad.Slab _root_.Quad.Ink

def scrV (g : Nat) (c : Scr) (sv rv : Value) : List Value := [.pointer (some ⟨g, 0, none⟩), .int .i64 (c.size : Int), .int .u32 (c.root.turn : Int), .int .u32 (c.root.epoch : Int), .int .u32 (c.root.gen : Int), .int .u8 (c.root.area : Int), .int .i64 (c.next : Int), sv, rv, .bool c.down]
structure Scr.Ok (c : Scr) : Prop where
  size : c.size ≤ 4096
  next : c.next ≤ c.size
  root : c.root.Ok
  area : c.root.area ≤ 1
  few : c.recs.length ≤ 1000000
  small : c.snap.length ≤ 1000000
  smalls : ∀ t ∈ c.recs, t.length ≤ 1000000
structure IsScr (w : World) (B g q : Nat) (Q : Nat → Prop) (sv rv : Value) (ts : List TS) (c : Scr) : Prop where
  own : Blk w q (scrV g c sv rv) 138
  ge : B ≤ q
  snap : TX w Q sv c.snap
  recs : ts.map TS.p = c.recs
  row : RO tsV 1 w B 33 rv ts
  tx : ∀ t ∈ ts, BS w t.a t.c t.p ∧ InQ Q t.a
  inQ : ∀ k, Q k → B ≤ k ∧ k < w.heap.size
  nq : ¬ Q q
  no : ∀ k, rv.ownBlock = some k → ¬ Q k ∧ k ≠ q
  ok : c.Ok
theorem IsScr.keep {S : List Nat} {w w' : World} {B g q : Nat} {Q : Nat → Prop} {sv rv : Value} {ts : List TS} {c : Scr} (h : IsScr w B g q Q sv rv ts c) (hc : Chg S w w') (hS : ∀ k ∈ S, k ≠ q ∧ ¬ Q k ∧ rv.ownBlock ≠ some k) : IsScr w' B g q Q sv rv ts c :=
  ⟨h.own.keep hc (fun hm => (hS _ hm).1 rfl), h.ge, h.snap.keep hc (fun k hk => (hS k hk).2.1) (fun _ h => h), h.recs, h.row.chg hc (fun k hk hm => (hS k hm).2.2 hk), fun t ht => ⟨bs_keep (h.tx t ht).1 hc (.inr fun x hx hm => (hS _ hm).2.1 ((h.tx t ht).2 x hx)), (h.tx t ht).2⟩,
    fun k hk => ⟨(h.inQ k hk).1, Nat.lt_of_lt_of_le (h.inQ k hk).2 hc.size⟩, h.nq, h.no, h.ok⟩
theorem IsScr.below {w w' : World} {B g q : Nat} {Q : Nat → Prop} {sv rv : Value} {ts : List TS} {c : Scr} (h : IsScr w B g q Q sv rv ts c) (hb : Below w.heap.size w w') : IsScr w' B g q Q sv rv ts c := h.keep (Chg.of_below [] hb) (by simp)
theorem IsScr.slab {w : World} {B g q : Nat} {Q : Nat → Prop} {sv rv : Value} {ts : List TS} {c : Scr} (h : IsScr w B g q Q sv rv ts c) (s : Sl) : IsScr w B g q Q sv rv ts { c with sl := s } :=
  ⟨h.own, h.ge, h.snap, h.recs, h.row, h.tx, h.inQ, h.nq, h.no, ⟨h.ok.size, h.ok.next, h.ok.root, h.ok.area, h.ok.few, h.ok.small, h.ok.smalls⟩⟩
/-- the records as texts -/
theorem texts_bl {w : World} {B : Nat} {Q : Nat → Prop} {rv : Value} {ts : List TS} {l : List Bytes} (hr : RO tsV 1 w B 33 rv ts) (ht : ∀ t ∈ ts, BS w t.a t.c t.p ∧ InQ Q t.a) (hl : ts.map TS.p = l) : BL w (fun k => Q k ∨ rv.ownBlock = some k) rv l := by
  obtain ⟨ba, bn, bc, rfl, hbn, hbc, hb⟩ := hr.cs
  subst hbn
  refine ⟨ba, bc, ts.map (fun t => (.slice t.a t.p.length t.c, t.p)), by rw [← hl, List.length_map], ?_, ?_, fun x hx => ?_, fun x hx => ?_⟩
  · rw [List.flatMap_map]; exact hb
  · rw [List.map_map]; exact hl
  · obtain ⟨t, htm, rfl⟩ := List.mem_map.1 hx
    exact ⟨t.a, t.c, rfl, (ht t htm).1, fun y hy => .inl ((ht t htm).2 y hy)⟩
  · subst hx
    exact .inr rfl
theorem nilepoch_calls (w : World) : Calls Tryd.prog 32 #[.pointer none] w fun e w' => e = .returned (.int .u32 0) ∧ w = w' := by
  go_enter Tryd.func32, Tryd.ntmps32
  go_wp2_with fail
  go_ret
  exact ⟨rfl, rfl⟩
theorem epoch_calls (w : World) (B g q : Nat) (Q : Nat → Prop) (sv rv : Value) (ts : List TS) (c : Scr) (h : IsScr w B g q Q sv rv ts c) : Calls Tryd.prog 32 #[.pointer (some ⟨q, 0, none⟩)] w fun e w' => e = .returned (.int .u32 (c.root.epoch : Int)) ∧ w = w' := by
  have c3 := h.own.get 3 rfl
  clear h
  go_enter Tryd.func32, Tryd.ntmps32
  go_wp2_with fail
  go_ret
  exact ⟨rfl, rfl⟩
theorem nilleftS_calls (w : World) : Calls Tryd.prog 37 #[.pointer none] w fun e w' => e = .returned (.int .i64 0) ∧ Below w.heap.size w w' := by
  go_enter Tryd.func37, Tryd.ntmps37
  go_wp2_with fail
  go_ret
  exact ⟨rfl, Below.refl _ _⟩
theorem leftS_calls (w : World) (B g q : Nat) (Q : Nat → Prop) (sv rv : Value) (ts : List TS) (c : Scr) (h : IsScr w B g q Q sv rv ts c) : Calls Tryd.prog 37 #[.pointer (some ⟨q, 0, none⟩)] w fun e w' => e = .returned (.int .i64 ((c.size - c.next : Nat) : Int)) ∧ Below w.heap.size w w' := by
  have c1 := h.own.get 1 rfl
  have c6 := h.own.get 6 rfl
  have hw : wrap64 ((c.size : Int) - (c.next : Int)) = ((c.size - c.next : Nat) : Int) := by
    have := h.ok.next; have := h.ok.size
    unfold wrap64
    omega
  have HW := hid hw
  clear h hw
  go_enter Tryd.func37, Tryd.ntmps37
  go_upto_region 3 with fail
  go_quiet (fail)
  rw [HW.out]
  go_wp2_with fail
  go_ret
  exact ⟨rfl, below_drewN (Below.refl _ _) _⟩
theorem nilsnap_calls (w : World) : Calls Tryd.prog 34 #[.pointer none] w (RetB w.heap.size w []) := by
  go_enter Tryd.func34, Tryd.ntmps34
  go_wp2_with fail
  go_ret
  exact ⟨_, rfl, World.ownsRow_nil w _ _ _, Below.refl _ _⟩
theorem snap_calls (w : World) (B g q : Nat) (Q : Nat → Prop) (sv rv : Value) (ts : List TS) (c : Scr) (h : IsScr w B g q Q sv rv ts c) : Calls Tryd.prog 34 #[.pointer (some ⟨q, 0, none⟩)] w (RetB w.heap.size w c.snap) := by
  obtain ⟨a, cc, rfl, hb, _⟩ := h.snap
  have c7 := h.own.get 7 rfl
  have C := hid (clone_calls a cc c.snap w hb (by have := h.ok.small; omega))
  clear h hb
  obtain ⟨m, hm⟩ : ∃ m, c.snap.length = m := ⟨_, rfl⟩
  rw [hm] at C c7
  clear hm
  go_enter Tryd.func34, Tryd.ntmps34
  go_wp2_with (go_at_call 75; go_must (refine C.out.mono ?_; rintro e w2 ⟨v, rfl, ho, hb⟩; have O := hid ho; have B2 := hid hb; clear ho hb; dsimp only))
  go_ret
  exact ⟨_, rfl, O.out, B2.out⟩
/-! records of their own -/
def CopiesTo (w : World) (l : List Bytes) (e : Ending) (w' : World) : Prop := ∃ ts bv, e = .returned bv ∧ ts.map TS.p = l ∧ Texts w w' ts bv ∧ Below w.heap.size w w'
def CsRel (w : World) (l : List Bytes) (bv iv : Value) (wr : World) : Prop := ∃ (k : Nat) (ts : List TS), iv = .int .i64 (k : Int) ∧ k ≤ l.length ∧ ts.map TS.p = l.take k ∧ Texts w wr ts bv ∧ Below w.heap.size w wr
set_option maxRecDepth 100000 in
set_option maxHeartbeats 2000000 in
theorem copies_calls (w : World) (Q : Nat → Prop) (a : Option Addr) (n c : Nat) (l : List Bytes) (h : BL w Q (.slice a n c) l) (hl : l.length ≤ 1000000) (hs : ∀ b ∈ l, b.length ≤ 1000000) :
    Calls Tryd.prog 76 #[.slice a n c] w (CopiesTo w l) := by
  have H := hid h
  obtain rfl : n = l.length := h.len.1
  have hl' : (l.length : Int) ≤ 1000000 := by omega
  have HSM := hid hs
  clear h hs
  have R0 := hid (show CsRel w l (.slice none 0 0) (.int .i64 0) w from ⟨0, [], rfl, Nat.zero_le _, rfl, ⟨RO.nil _ _ _ _ _, by simp⟩, Below.refl _ _⟩)
  go_enter Tryd.func76, Tryd.ntmps76
  go_wp2_with fail
  go_loopw [3, 8] (fun bv iv wr => CsRel w l bv iv wr) (fun _ iv _ => l.length - (intOf iv).toNat)
  case atStart => exact R0.out
  case round =>
    clear R0
    obtain ⟨k, ts, rfl, hk, hts, htx, hb⟩ := hrel
    have HTS := hid hts
    have TX := hid htx
    have BR := hid hb
    have hlen : ts.length = k := by have := congrArg List.length hts; rw [List.length_map, List.length_take] at this; omega
    have HLN := hid hlen
    clear hts hlen hb
    obtain ⟨a3, n3, c3, rfl, _, _, _⟩ := htx.rb.cs
    clear htx
    by_cases hlt : k < l.length
    · have hlt' : (k : Int) < (l.length : Int) := by omega
      obtain ⟨b, off, rfl, _, v, hcell, a4, c4, rfl, hbs, _⟩ := (H.out.below BR.out).at hlt
      have hsm := HSM.out (l.getD k []) (by rw [getD_in hlt]; exact List.getElem_mem hlt)
      have C := hid (clone_calls a4 c4 (l.getD k []) wr hbs (by omega))
      obtain ⟨tt, htt⟩ : ∃ tt, l.getD k [] = tt := ⟨_, rfl⟩
      rw [htt] at hcell C
      have HTT := hid htt
      clear hbs hsm htt
      go_wp2_with (first
        | (go_at_call 75; go_must (refine C.out.mono ?_; rintro e w2 ⟨v2, rfl, ho, hb2⟩; obtain ⟨a5, c5, rfl, hbs5, hof5⟩ := ho.bs; have BS5 := hid hbs5; have OF5 := hid hof5; have B5 := hid hb2; have X5 := hid ((TX.out.keep (Chg.of_below [] hb2) (by simp)).keep (Chg.of_below [] (below_alloc w2 (.cells (tsV ⟨a5, c5, tt⟩).toArray 33))) (by simp)); have L5 := hid (cs_lit w2 (tsV ⟨a5, c5, tt⟩) 33 1 1 rfl (by simp [maxLen])); clear ho hbs5 hof5 hb2; dsimp only))
        | (at_builtin; go_must (refine wpList_append_ro tsV_length tsV_one (by decide) (.tmp 12) (.tmp 15) _ rfl rfl w.heap.size 33 _ 24 info_slb rfl under_slbs _ ts X5.out.rb rfl (l' := [⟨a5, c5, tt⟩]) rfl (show CS _ _ _ _ ([(⟨a5, c5, tt⟩ : TS)].flatMap tsV) from L5.out) (Nat.le_refl _) rfl (by have := HLN.out; simp; omega) (Nat.le_trans (Nat.le_trans BR.out.size B5.out.size) (below_alloc w2 _).size) ?_; intro v3 w3 ho3 hb3 hg3 hw3; have O3 := hid ho3; have G3 := hid hg3; have V3 := hid hw3; have B3 := hid hb3; clear ho3 hb3 hg3 hw3)))
      have hbw : Below wr.heap.size wr (w2.alloc (.cells (tsV ⟨a5, c5, tt⟩).toArray 33)) := B5.out.trans ((below_alloc w2 _).mono B5.out.size)
      have R : CsRel w l v3 (.int .i64 ((k : Int) + 1)) w3 := ⟨k + 1, ts ++ [⟨a5, c5, tt⟩], rfl, hlt, by
          rw [List.map_append, HTS.out, List.take_succ_eq_append_getElem hlt, ← getD_in (d := []) hlt, HTT.out]
          rfl,
        TX.out.more BR.out.size hbw ⟨a5, c5, tt⟩ (bs_keep BS5.out (Chg.of_below [] (below_alloc w2 _)) (.inr (by simp))) (fun x hx => ⟨(OF5.out x hx).2.2.1, Nat.lt_of_lt_of_le (OF5.out x hx).2.2.2 (below_alloc w2 _).size⟩) O3.out G3.out V3.out,
        (BR.out.trans (hbw.mono BR.out.size)).trans B3.out⟩
      exact ⟨R, by simp only [intOf]; omega⟩
    · have hlt' : ¬ ((k : Int) < (l.length : Int)) := by omega
      obtain rfl : k = l.length := by omega
      go_wp2_with fail
      go_ret
      exact ⟨ts, _, rfl, by rw [HTS.out, List.take_length], TX.out, BR.out⟩
theorem nilrecs_calls (w : World) : Calls Tryd.prog 36 #[.pointer none] w (CopiesTo w []) := by
  go_enter Tryd.func36, Tryd.ntmps36
  go_wp2_with fail
  go_ret
  exact ⟨[], _, rfl, rfl, ⟨RO.nil _ _ _ _ _, by simp⟩, Below.refl _ _⟩
theorem recs_calls (w : World) (B g q : Nat) (Q : Nat → Prop) (sv rv : Value) (ts : List TS) (c : Scr) (h : IsScr w B g q Q sv rv ts c) : Calls Tryd.prog 36 #[.pointer (some ⟨q, 0, none⟩)] w (CopiesTo w c.recs) := by
  have hb := texts_bl h.row h.tx h.recs
  obtain ⟨a, n, cc, rfl, hn, _, _⟩ := h.row.cs
  have C := hid (copies_calls w _ a n cc c.recs hb h.ok.few h.ok.smalls)
  have c8 := h.own.get 8 rfl
  clear h hb hn
  go_enter Tryd.func36, Tryd.ntmps36
  go_wp2_with (go_at_call 76; go_must (refine C.out.mono ?_; rintro e w2 ⟨ts2, bv, rfl, h1, h2, h3⟩; have H1 := hid h1; have H2 := hid h2; have H3 := hid h3; obtain ⟨a2, n2, c2, rfl, _, _, _⟩ := h2.rb.cs; clear h1 h2 h3; dsimp only))
  go_ret
  exact ⟨ts2, _, rfl, H1.out, H2.out, H3.out⟩
def downS (c : Scr) (b : Bool) : Scr := { c with down := b }
theorem IsScr.down {w : World} {B g q : Nat} {Q : Nat → Prop} {sv rv : Value} {ts : List TS} {c : Scr} (h : IsScr w B g q Q sv rv ts c) (b : Bool) : IsScr (w.setCell ⟨q, 9, none⟩ (.bool b)) B g q Q sv rv ts (downS c b) := by
  have hc := chg_setCell w q 9 (.bool b)
  refine ⟨h.own.set 9 (.bool b), h.ge, h.snap.keep hc (fun k hk => by rw [List.mem_singleton] at hk; subst hk; exact h.nq) (fun _ h => h), h.recs, h.row.chg hc (fun k hk hm => by rw [List.mem_singleton] at hm; exact (h.no k hk).2 hm),
    fun t ht => ⟨bs_keep (h.tx t ht).1 hc (.inr fun x hx hm => by rw [List.mem_singleton] at hm; exact h.nq (hm ▸ (h.tx t ht).2 x hx)), (h.tx t ht).2⟩, fun k hk => ⟨(h.inQ k hk).1, Nat.lt_of_lt_of_le (h.inQ k hk).2 hc.size⟩, h.nq, h.no, ⟨h.ok.size, h.ok.next, h.ok.root, h.ok.area, h.ok.few, h.ok.small, h.ok.smalls⟩⟩
def readyS (c : Scr) : Scr × Nat := if c.down || c.sl.off then (downS c true, 13) else (c, 0)
def ReadySTo (w : World) (B g q : Nat) (Q : Nat → Prop) (sv rv : Value) (ts : List TS) (c : Scr) (e : Ending) (w' : World) : Prop :=
  e = .returned (.int .i64 ((readyS c).2 : Int)) ∧ IsScr w' B g q Q sv rv ts (readyS c).1 ∧ Chg [q] w w'
theorem nilreadyS_calls (w : World) : Calls Tryd.prog 78 #[.pointer none] w fun e w' => e = .returned (.int .i64 6) ∧ w = w' := by
  go_enter Tryd.func78, Tryd.ntmps78
  go_wp2_with fail
  go_ret
  exact ⟨rfl, rfl⟩
theorem readyS_calls (w : World) (B g d : Nat) (wv : Value) (q : Nat) (Q : Nat → Prop) (sv rv : Value) (ts : List TS) (c : Scr) (hS : IsSlab w B g d wv c.sl) (h : IsScr w B g q Q sv rv ts c) :
    Calls Tryd.prog 78 #[.pointer (some ⟨q, 0, none⟩)] w (ReadySTo w B g q Q sv rv ts c) := by
  have c0 := h.own.get 0 rfl
  have c9 := h.own.get 9 rfl
  have f9 := h.own.free 9
  have H := hid h
  have ho := on_calls w B g d wv c.sl hS
  unfold ReadySTo readyS
  cases hd : c.down
  · rw [hd] at c9
    cases hoff : c.sl.off
    · rw [hoff] at ho
      clear h hS
      go_enter Tryd.func78, Tryd.ntmps78
      go_wp2_with (go_at_call 45; refine ho.mono ?_; rintro e w' ⟨rfl, rfl⟩; dsimp only [Bool.not_false])
      go_ret
      exact ⟨rfl, H.out, Chg.refl _ _⟩
    · rw [hoff] at ho
      clear h hS
      go_enter Tryd.func78, Tryd.ntmps78
      go_wp2_with (go_at_call 45; refine ho.mono ?_; rintro e w' ⟨rfl, rfl⟩; dsimp only [Bool.not_true])
      go_ret
      exact ⟨rfl, H.out.down true, chg_setCell w q 9 _⟩
  · rw [hd] at c9
    clear h hS ho
    go_enter Tryd.func78, Tryd.ntmps78
    go_wp2_with fail
    go_ret
    exact ⟨rfl, H.out.down true, chg_setCell w q 9 _⟩
theorem done_calls (w : World) (B g q : Nat) (Q : Nat → Prop) (sv rv : Value) (ts : List TS) (c : Scr) (e0 : Nat) (he : e0 ≤ 100) (h : IsScr w B g q Q sv rv ts c) :
    Calls Tryd.prog 79 #[.pointer (some ⟨q, 0, none⟩), .int .i64 (e0 : Int)] w fun e w' => e = .returned (.int .i64 (e0 : Int)) ∧ IsScr w' B g q Q sv rv ts (downS c (c.down || decide (e0 ≠ 0))) ∧ Chg [q] w w' := by
  have c9 := h.own.get 9 rfl
  have f9 := h.own.free 9
  have H := hid h
  clear h
  cases hd : c.down
  · rw [hd] at c9
    by_cases h0 : e0 = 0
    · subst h0
      go_enter Tryd.func79, Tryd.ntmps79
      go_wp2_with fail
      go_ret
      exact ⟨rfl, H.out.down false, chg_setCell w q 9 _⟩
    · have h0' : ¬ ((e0 : Int) = 0) := by omega
      go_enter Tryd.func79, Tryd.ntmps79
      go_wp2_with fail
      go_ret
      refine ⟨rfl, ?_, chg_setCell w q 9 _⟩
      rw [decide_eq_true h0, show ((e0 : Int) != 0) = true from by rw [bne_iff_ne]; omega]
      exact H.out.down true
  · rw [hd] at c9
    go_enter Tryd.func79, Tryd.ntmps79
    go_wp2_with fail
    go_ret
    exact ⟨rfl, H.out.down true, chg_setCell w q 9 _⟩
end Go.Proofs.YtoapibbbooongaaDoor
