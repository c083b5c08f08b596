/- The document's slab: a flush. -/
import Derived.Test.YtoapibbbooongaaDoorRfC
namespace Go.Proofs.YtoapibbbooongaaDoor
open Go.RowKit Go.Quad _root_.Quad.Slab

theorem run_secl_at (w : World) (g i : Nat) (v : Value) (h : w.cell? ⟨g, i, none⟩ = some v) : (Instr.loadAt 34 (.pointer (some ⟨g, i, none⟩))).run Tryd.prog w = .ok v w := by go_simp
theorem run_bytes_at' (w : World) (g i : Nat) (v : Value) (h : w.cell? ⟨g, i, none⟩ = some v) : (Instr.loadAt 33 (.pointer (some ⟨g, i, none⟩))).run Tryd.prog w = .ok v w := by go_simp
theorem run_sec_store (w : World) (g i : Nat) (old : Value) (a : Option Addr) (n c : Nat) (h : w.cell? ⟨g, i, none⟩ = some old) (hf : w.frozen? ⟨g, i, none⟩ = false) :
    (Instr.storeAt 33 (.pointer (some ⟨g, i, none⟩)) (.slice a n c)).run Tryd.prog w = .ok () (w.setCell ⟨g, i, none⟩ (.slice a n c)) := by go_simp

theorem ok_setsec {s : Sl} {i : Nat} {p : Bytes} (h : Ok s) (hp : p.length = 128) : Ok { s with done := s.done.set i p } := by
  refine ⟨?_, ?_, by simpa using h.small, h.wsmall, h.ssmall, h.asmall⟩
  · intro q hq
    rcases List.mem_or_eq_of_mem_set hq with hq | rfl
    · exact h.sec q hq
    · exact hp
  · intro x hx
    have := h.wsec x hx
    simpa using this

/-- a sector is laid in anew -/
theorem rf_putsec {w1 w2 : World} {F : Nat → Prop} {n0 B g dn dc : Nat} {wv : Value} {s1 : Sl} (h : IsRf w1 (Fnew F n0 w1) B g dn dc wv s1) (hb : Below w1.heap.size w1 w2)
    (i : Nat) (hi : i < s1.done.length) (p : List UInt8) (hp : p.length = 128) {a : Option Addr} {c : Nat} (hv : OB w2 w1.heap.size 5 (.slice a 128 c) p) (h0 : n0 ≤ w1.heap.size := by omega) (hB0 : B ≤ n0 := by omega) :
    IsRf (w2.setCell ⟨dn, i, none⟩ (.slice a 128 c)) (Fnew F n0 (w2.setCell ⟨dn, i, none⟩ (.slice a 128 c))) B g dn dc wv { s1 with done := s1.done.set i p } := by
  have hdl := (h.lt _ h.inF.2.1).2
  have hgl := h.own.lt
  have hsz : (w2.setCell ⟨dn, i, none⟩ (.slice a 128 c)).heap.size = w2.heap.size := by simp [World.setCell]
  have hch : Chg [dn] w2 (w2.setCell ⟨dn, i, none⟩ (.slice a 128 c)) := chg_setCell w2 dn i _
  have hc : Chg [dn] w1 (w2.setCell ⟨dn, i, none⟩ (.slice a 128 c)) := (Chg.of_below [dn] hb).trans hch
  have hS : ∀ k ∈ [dn], ¬ Fnew F n0 w1 k ∨ k = g ∨ k = dn := by simp
  have hFF : ∀ k, Fnew F n0 w1 k → Fnew F n0 (w2.setCell ⟨dn, i, none⟩ (.slice a 128 c)) k := fun k hk => by
    rcases hk with hk | hk
    · exact .inl hk
    · exact .inr ⟨hk.1, by have := hb.size; omega⟩
  obtain ⟨LD, h1, h2, h3⟩ := h.don
  obtain ⟨aw, cw, LW, e1, e2, e3, e4, e5, e6⟩ := h.way
  have hll : LD.length = s1.done.length := by rw [← h2]; simp
  have hr := (row_store (ownsRow_chg h1 (Chg.of_below [] hb) (by simp)) i (.slice a 128 c)).1
  have hfl : (LD.flatMap dD).set i (.slice a 128 c) = (LD.set i (.slice a 128 c, p)).flatMap dD := by
    have := flat_set dD 1 dD_length LD i 0 LD[i] (.slice a 128 c, p) (.slice a 128 c) (List.getElem?_eq_getElem (by omega)) (by decide) rfl
    rwa [Nat.mul_one, Nat.add_zero] at this
  rw [hfl] at hr
  have hsec : SecAt (w2.setCell ⟨dn, i, none⟩ (.slice a 128 c)) (Fnew F n0 (w2.setCell ⟨dn, i, none⟩ (.slice a 128 c))) g dn (.slice a 128 c) p := by
    obtain ⟨a', c', e', hbs, hof⟩ := hv.bs
    rw [hp] at e'
    simp only [Value.slice.injEq] at e'
    obtain ⟨rfl, _, rfl⟩ := e'
    obtain ⟨b, off, rfl, _⟩ := CS.at hbs (by simp [hp])
    obtain ⟨_, _, q1, q2⟩ := hof _ rfl
    dsimp only at q1 q2
    have hne : b ≠ dn := by omega
    exact ⟨b, off, c, rfl, cs_chg hbs hch (by rintro x ⟨⟩ hm; simp at hm; exact hne hm), hp, .inr ⟨by omega, by omega⟩, by omega, hne⟩
  refine ⟨by dsimp only; rw [List.length_set]; exact h.own.keep hc (by simp; exact h.inF.2.2), ⟨LD.set i (.slice a 128 c, p), ?_, ?_, ?_⟩, ⟨aw, cw, LW, e1, cs_chgS e2 hc ?_, e3, e4, fun x hx => (e5 x hx).keep hc hS hFF, e6.imp id fun ⟨b, off, e, hb, h⟩ => ⟨b, off, e, hFF b hb, h⟩⟩, ok_setsec h.ok hp, ⟨hFF _ h.inF.1, hFF _ h.inF.2.1, h.inF.2.2⟩, ?_⟩
  · dsimp only; rw [List.length_set]; exact hr
  · rw [List.map_set, h2]
  · intro x hx
    rcases List.mem_or_eq_of_mem_set hx with hx | rfl
    · exact (h3 x hx).keep hc hS hFF
    · exact hsec
  · rcases e6 with rfl | ⟨b, off, rfl, hb, h1, h2⟩
    · exact .inl rfl
    · refine .inr ?_
      rintro x ⟨⟩ hm
      simp at hm
      exact h2 hm
  · intro k hk
    rcases hk with hk | hk
    · have := h.lt k (.inl hk); have := hb.size; omega
    · exact ⟨by omega, hk.2⟩

def RflRel (s : Sl) (w : World) (F : Nat → Prop) (B g dn dc : Nat) (wv iv : Value) (wr : World) : Prop :=
  ∃ k : Nat, iv = .int .i64 (k : Int) ∧ k ≤ s.way.length ∧ IsRf wr (Fnew F w.heap.size wr) B g dn dc wv { s with done := flD s k } ∧ Chg [g, dn] w wr

theorem nilrflush_calls (w : World) : Calls Tryd.prog 100 #[.pointer none] w fun e w' => e = .returned (.int .i64 6) ∧ w = w' := by
  go_enter Tryd.func100, Tryd.ntmps100
  go_wp2_with fail
  go_ret
  exact ⟨rfl, rfl⟩

/-- the way is done: none is under way -/
theorem rf_clear {wr : World} {F : Nat → Prop} {B g dn dc : Nat} {wv : Value} {s1 : Sl} (h : IsRf wr F B g dn dc wv s1) {w' : World} (hc : Chg [g] wr w') (s2 : Sl) (hd : s2.done = s1.done) (hw : s2.way = []) (hok : Ok s2)
    (hB : Blk w' g [.slice (some ⟨dn, 0, none⟩) s1.done.length dc, .slice none 0 0, .bool s2.off, .int .i64 (s2.armed : Int), .int .i64 (s2.steps : Int)] 111) : IsRf w' F B g dn dc (.slice none 0 0) s2 := by
  obtain ⟨LD, h1, h2, h3⟩ := h.don
  have hS : ∀ k ∈ [g], ¬ F k ∨ k = g ∨ k = dn := by simp
  refine ⟨by rw [hd]; exact hB, ⟨LD, by rw [hd]; exact ownsRow_chg h1 hc (fun k hk hm => by simp [Value.ownBlock] at hk; subst hk; simp at hm; exact h.inF.2.2 hm.symm), by rw [hd]; exact h2, fun x hx => (h3 x hx).keep hc hS (fun _ h => h)⟩,
    ⟨none, 0, [], rfl, ⟨by simp, by simp [maxLen], fun _ => rfl, .inl rfl⟩, Nat.le_refl _, by rw [hw]; rfl, by simp, .inl rfl⟩, hok, h.inF, fun k hk => ⟨(h.lt k hk).1, Nat.lt_of_lt_of_le (h.lt k hk).2 hc.size⟩⟩

set_option maxRecDepth 20000 in
set_option maxHeartbeats 1000000 in
theorem rflush_calls (w : World) (F : Nat → Prop) (B g dn dc : Nat) (wv : Value) (s : Sl) (h : IsRf w F B g dn dc wv s) (hs : s.steps < 1000000) :
    Calls Tryd.prog 100 #[.pointer (some ⟨g, 0, none⟩)] w (RfTo w F B g dn dc (flushL s).1 (flushL s).2) := by
  have c2 := h.own.get 2 rfl
  have H := hid h
  have Hs := hid hs
  have hBw := h.size
  clear h hs
  obtain ⟨o, ho⟩ : ∃ o, s.off = o := ⟨_, rfl⟩
  rw [ho] at c2
  have Ho := hid ho
  clear ho
  cases o
  case true =>
    have e := hid (show flushL s = (s, 13) from by unfold flushL; rw [if_pos Ho.out])
    go_enter Tryd.func100, Tryd.ntmps100
    go_wp2_with fail
    go_ret
    rw [e.out]
    exact ⟨wv, rfl, H.out.new w.heap.size H.out.size, Chg.refl _ _⟩
  case false =>
    obtain ⟨o1, ho1⟩ : ∃ o, (stepL s).off = o := ⟨_, rfl⟩
    have Ho1 := hid ho1
    have St := rstep_calls w F B g dn dc wv s H.out Hs.out Ho.out
    rw [ho1] at St
    have Stx := hid St
    clear ho1 St
    cases o1
    case true =>
      have e := hid (show flushL s = (stepL s, 13) from by unfold flushL; rw [if_neg (by rw [Ho.out]; simp), if_pos Ho1.out])
      go_enter Tryd.func100, Tryd.ntmps100
      go_wp2_with fail
      refine Stx.out.mono ?_
      rintro e w1 ⟨rfl, h1, hc1⟩
      have F1 := hid (And.intro h1 hc1)
      clear h1 hc1
      go_wp2_with fail
      go_ret
      rw [e.out]
      exact ⟨wv, rfl, F1.out.1.new w.heap.size hBw, F1.out.2.mono (by simp)⟩
    case false =>
      have e := hid (show flushL s = ({ stepL s with done := flD (stepL s) (stepL s).way.length, way := [] }, 0) from by
        unfold flushL; rw [if_neg (by rw [Ho.out]; simp), if_neg (by rw [Ho1.out]; simp)]; unfold flD; rw [List.take_length]; rfl)
      generalize stepL s = s1 at e Stx
      clear c2
      go_enter Tryd.func100, Tryd.ntmps100
      have c2 := H.out.own.get 2 rfl
      rw [Ho.out] at c2
      go_wp2_with fail
      refine Stx.out.mono ?_
      rintro e w1 ⟨rfl, h1, hc1⟩
      obtain ⟨aw, cw, LW, e1, _, hwle, hwm, _⟩ := h1.way
      have hwlen : LW.length = s1.way.length := by rw [← hwm]; simp
      have c1 := h1.own.get 1 rfl
      rw [e1, hwlen] at c1
      have E1 := hid (show wv = .slice aw s1.way.length cw from by rw [e1, hwlen])
      have H1 := hid (h1.new w.heap.size hBw)
      have hwsm := h1.ok.wsmall
      have hdsm := h1.ok.small
      have hlen : (s1.way.length : Int) ≤ 1000000 := by omega
      have Hc1 := hid (hc1.mono (T := [g, dn]) (by simp))
      clear h1 hc1 e1 c2 hwm hwlen
      go_wp2_with fail
      clear c1
      go_loopw [21] (fun iv wr => RflRel s1 w F B g dn dc wv iv wr) (fun iv _ => s1.way.length - (intOf iv).toNat)
      case atStart => exact ⟨0, rfl, Nat.zero_le _, by rw [flD_zero]; exact H1.out, Hc1.out⟩
      case round =>
        obtain ⟨k, rfl, hk, hsl, hcw⟩ := hrel
        have S := hid hsl
        have Cw := hid hcw
        clear hsl hcw
        by_cases hkn : k < s1.way.length
        · have hkn' : (k : Int) < (s1.way.length : Int) := by omega
          obtain ⟨b, off, c, v, e2, q0, q1, hv⟩ := dLW_get S.out k hkn
          have e3 := E1.out.symm.trans e2
          simp only [Value.slice.injEq] at e3
          obtain ⟨rfl, _, rfl⟩ := e3
          obtain ⟨bv, ofv, cv, rfl, hvb, hvl, hvF, hvg, hvd⟩ := hv
          have hx := (S.out.ok.wsec _ (List.getElem_mem (l := s1.way) (n := k) hkn))
          have Hfs := hid (flD_succ s1 k hkn)
          dsimp only at q0 hvb hvl
          generalize s1.way[k] = x at q0 hvb hvl hx Hfs
          obtain ⟨at', p⟩ := x
          dsimp only at q0 hvb hvl hx
          have dl : (flD s1 k).length = s1.done.length := flD_length _ _
          have hdl : at' < s1.done.length := by omega
          have Hdl := hid hdl
          have hat : (at' : Int) < (s1.done.length : Int) := by omega
          have Px0 := hid (And.intro hvb hvl)
          clear e2 hvb hvl hvF hvg hvd hx hdl
          go_upto_region 8 with fail
          have Bq := hid (blk_alloc wr [.int .i64 (at' : Int), .slice (some ⟨bv, ofv, none⟩) 128 cv] 119)
          have S3 := hid ((S.out.below (below_alloc wr (.cells #[.int .i64 (at' : Int), .slice (some ⟨bv, ofv, none⟩) 128 cv] 119))).wider (F' := Fnew F w.heap.size (wr.alloc (.cells #[.int .i64 (at' : Int), .slice (some ⟨bv, ofv, none⟩) 128 cv] 119))) (fun q hq => hq.imp id fun h => ⟨h.1, by simp; omega⟩) (fun q hq => by
            rcases hq with hq | hq
            · have := S.out.lt q (.inl hq); simp; omega
            · exact ⟨by omega, hq.2⟩))
          have C3 := hid (Cw.out.trans (Chg.of_below _ (below_alloc wr (.cells #[.int .i64 (at' : Int), .slice (some ⟨bv, ofv, none⟩) 128 cv] 119))))
          have Px := hid (And.intro (Px0.out.1.below (below_alloc wr (.cells #[.int .i64 (at' : Int), .slice (some ⟨bv, ofv, none⟩) 128 cv] 119))) Px0.out.2)
          have hw3 : w.heap.size ≤ (wr.alloc (.cells #[.int .i64 (at' : Int), .slice (some ⟨bv, ofv, none⟩) 128 cv] 119)).heap.size := C3.out.size
          obtain ⟨q, hq⟩ : ∃ q, wr.heap.size = q := ⟨_, rfl⟩
          rw [hq] at Bq ⊢
          generalize wr.alloc (.cells #[.int .i64 (at' : Int), .slice (some ⟨bv, ofv, none⟩) 128 cv] 119) = w3 at Bq S3 C3 Px hw3 ⊢
          clear q0 q1 hq Px0
          refine wp_region_chg 14 11 [] (fun idx v w' => match idx with
            | 0 | 1 | 2 => v = .pointer (some ⟨g, 0, none⟩)
            | 3 => v = .slice (some ⟨dn, 0, none⟩) s1.done.length dc
            | 4 => v = .pointer (some ⟨q, 0, none⟩)
            | 5 => v = .int .i64 (at' : Int)
            | 6 => ∃ b, v = .slice (some ⟨b, 0, none⟩) 0 0 ∧ Blk w' b [] 5 ∧ w3.heap.size ≤ b
            | 7 => v = .pointer (some ⟨q, 1, none⟩)
            | 8 => v = .slice (some ⟨bv, ofv, none⟩) 128 cv
            | 9 => OB w' w3.heap.size 5 v p
            | 10 => v = .pointer (some ⟨dn, at', none⟩)
            | _ => True) (by kernel_rfl) (by kernel_rfl) (by kernel_rfl) ?_ ?_ ?_ ?_
          · intro j v wx wy hR hb
            match j, hR with
            | 0, hR | 1, hR | 2, hR | 3, hR | 4, hR | 5, hR | 7, hR | 8, hR | 10, hR => exact hR
            | 6, hR => exact (by obtain ⟨b, e, h1, h2⟩ := hR; exact ⟨b, e, h1.below hb, h2⟩)
            | 9, hR => exact OB.below hR hb
            | _ + 11, _ => trivial
          · intro j v wx wy hne hR hb
            match j, hR with
            | 0, hR | 1, hR | 2, hR | 3, hR | 4, hR | 5, hR | 7, hR | 8, hR | 10, hR => exact hR
            | 6, hR => exact (by obtain ⟨b, e, h1, h2⟩ := hR; exact ⟨b, e, h1.below hb.below0, h2⟩)
            | 9, hR => exact OB.below hR hb.below0
            | _ + 11, _ => trivial
          · refine ⟨?_, ?_, ?_, ?_, ?_, ?_, ?_, ?_, ?_, ?_, ?_, trivial⟩
            all_goals intro ρ wx hE hc hg hf
            · intro h0; exact opOk_move _ rfl ⟨Below.refl _ _, h0⟩
            · intro (h0 : ρ (.tmp 25) = .pointer (some ⟨g, 0, none⟩))
              exact opOk_run (v := .pointer (some ⟨g, 0, none⟩)) (w' := wx) (by go_simp) ⟨Below.refl _ _, rfl⟩
            · intro (h0 : ρ (.tmp 26) = .pointer (some ⟨g, 0, none⟩))
              exact opOk_run (v := .pointer (some ⟨g, 0, none⟩)) (w' := wx) (by go_simp) ⟨Below.refl _ _, rfl⟩
            · intro (h0 : ρ (.tmp 27) = .pointer (some ⟨g, 0, none⟩))
              have c := ((S3.out.own.below (below_drew _)).keep (S := []) hE (by simp)).get 0 rfl
              dsimp only at c
              rw [dl] at c
              exact opOk_load _ _ rfl _ _ h0 (run_secl_at _ _ _ _ c) ⟨Below.refl _ _, rfl⟩
            · intro (h0 : ρ (.tmp 4) = .pointer (some ⟨q, 0, none⟩))
              exact opOk_run (v := .pointer (some ⟨q, 0, none⟩)) (w' := wx) (by go_simp) ⟨Below.refl _ _, rfl⟩
            · intro (h0 : ρ (.tmp 29) = .pointer (some ⟨q, 0, none⟩))
              have c := ((Bq.out.below (below_drew _)).keep (S := []) hE (by simp)).get 0 rfl
              exact opOk_load _ _ rfl _ _ h0 (run_int_at _ _ _ _ c) ⟨Below.refl _ _, rfl⟩
            · have hE : Chg [] w3.drew wx := hE
              exact opOk_lit0 _ 5 rfl under_bytes info_u8 fun h => ⟨below_alloc wx _, wx.heap.size, rfl, h, hE.size⟩
            · intro (h0 : ρ (.tmp 4) = .pointer (some ⟨q, 0, none⟩))
              exact opOk_run (v := .pointer (some ⟨q, 1, none⟩)) (w' := wx) (by go_simp) ⟨Below.refl _ _, rfl⟩
            · intro (h0 : ρ (.tmp 32) = .pointer (some ⟨q, 1, none⟩))
              have c := ((Bq.out.below (below_drew _)).keep (S := []) hE (by simp)).get 1 rfl
              exact opOk_load _ _ rfl _ _ h0 (run_bytes_at' _ _ _ _ c) ⟨Below.refl _ _, rfl⟩
            · intro ⟨b, h0, hB, hb⟩ (h1 : ρ (.tmp 33) = .slice (some ⟨bv, ofv, none⟩) 128 cv)
              have hE : Chg [] w3.drew wx := hE
              refine opOk_append_lit0 _ _ _ 5 rfl info_u8 under_bytes b h0 hB (a := some ⟨bv, ofv, none⟩) (c := cv) (l := p) ((Px.out.1.below (below_drew _)).below hE.below0) (by rw [h1, Px.out.2]) (by rw [Px.out.2]; omega) w3.heap.size hb fun v' w' h2 h3 => ⟨h3, h2⟩
            · intro (h0 : ρ (.tmp 28) = .slice (some ⟨dn, 0, none⟩) s1.done.length dc) (h1 : ρ (.tmp 30) = .int .i64 (at' : Int))
              exact opOk_run (v := .pointer (some ⟨dn, at', none⟩)) (w' := wx) (by go_simp) ⟨Below.refl _ _, rfl⟩
          · intro wz hE
            rintro _ rfl _ rfl _ rfl _ rfl _ rfl _ rfl _ _ _ rfl _ rfl v9 h9 _ rfl
            simp only [PutLast, Act.put, List.setIfInBounds_toArray, List.set_cons_succ, List.set_cons_zero]
            have hE3 : Below w3.heap.size w3 wz := (below_drew _).trans (hE.below0.mono (Nat.le_refl _))
            obtain ⟨a9, c9, e9, hbs9, hof9⟩ := OB.bs h9
            subst e9
            have hl9 := Px.out.2
            rw [hl9] at h9 ⊢
            have hput := rf_putsec (n0 := w.heap.size) S3.out hE3 at' (by dsimp only; rw [dl]; exact Hdl.out) p hl9 h9
            obtain ⟨_, q1, q2, _⟩ := dLD_get (S3.out.below hE3) at' (by dsimp only; rw [dl]; exact Hdl.out)
            refine opOk_store 33 (.tmp 35) (.tmp 34) rfl (.pointer (some ⟨dn, at', none⟩)) (.slice a9 128 c9) rfl rfl (run_sec_store wz dn at' _ a9 128 c9 q1 q2) ?_
            have S5 := hid hput
            have C5 := hid ((C3.out.trans (Chg.of_below _ hE3)).trans ((chg_setCell wz dn at' (.slice a9 128 c9)).mono (T := [g, dn]) (by simp)))
            clear hput q1 q2 hE hE3 hbs9 hof9 h9 hl9
            go_wp2_with fail
            have R : RflRel s1 w F B g dn dc wv (.int .i64 ((k : Int) + 1)) (wz.setCell ⟨dn, at', none⟩ (.slice a9 128 c9)) := ⟨k + 1, by go_num, by omega, by rw [Hfs.out]; exact S5.out, C5.out⟩
            refine ⟨?_, by simp [intOf]; omega⟩
            first | exact R | ((repeat apply Exists.intro); refine ⟨R, ?_⟩; and_intros <;> rfl)
        · obtain rfl : k = s1.way.length := by omega
          have hkn' : ¬ ((s1.way.length : Int) < (s1.way.length : Int)) := by omega
          have c1 := S.out.own.get 1 rfl
          have f1 := S.out.own.free 1
          have hch : Chg [g] wr (wr.setCell ⟨g, 1, none⟩ (.slice none 0 0)) := chg_setCell wr g 1 _
          have hB := S.out.own.set 1 (.slice none 0 0)
          simp only [List.set_cons_succ, List.set_cons_zero] at hB
          have hF9 := rf_clear S.out hch { s1 with done := flD s1 s1.way.length, way := [] } rfl rfl ⟨S.out.ok.sec, by simp, S.out.ok.small, by simp, S.out.ok.ssmall, S.out.ok.asmall⟩ hB
          have F9 := hid (hF9.wider (F' := Fnew F w.heap.size (wr.setCell ⟨g, 1, none⟩ (.slice none 0 0))) (fun q hq => hq.imp id fun h => ⟨h.1, by simp [World.setCell]; exact h.2⟩) (fun q hq => by
            rcases hq with hq | hq
            · have := S.out.lt q (.inl hq); simp [World.setCell]; omega
            · exact ⟨by omega, hq.2⟩))
          have C9 := hid (Cw.out.trans (hch.mono (T := [g, dn]) (by simp)))
          clear hch hB hF9
          go_wp2_with fail
          go_ret
          rw [e.out]
          exact ⟨_, rfl, F9.out, C9.out⟩
end Go.Proofs.YtoapibbbooongaaDoor
