/- The document's slab: a crash. -/
import Derived.Test.YtoegnlabneafkaaRfD
import Derived.Deep.CutRange
namespace Go.Proofs.Ytoegnlabneafkaa
open Go.RowKit Go.Quad _root_.Quad.Slab

theorem torn_get {f c : Nat} {old p : Bytes} (h1 : old.length = 128) (h2 : p.length = 128) (hc : c ≤ 128) (j : Nat) (hj : j < 128) :
    (torn f c old p).getD j 0 = if f = 1 ∨ (f = 2 ∧ j < c) ∨ (f = 3 ∧ ¬ j < c) then p.getD j 0 else old.getD j 0 := by
  unfold torn
  simp only [List.getD_eq_getElem?_getD]
  have hl : (if f = 1 ∨ f = 2 then p.take c else old.take c).length = c := by split <;> simp [h1, h2] <;> omega
  by_cases hjc : j < c
  · rw [List.getElem?_append_left (by omega)]
    by_cases hf : f = 1 ∨ f = 2
    · rw [if_pos hf, if_pos (by omega), List.getElem?_take, if_pos hjc]
    · rw [if_neg hf, if_neg (by omega), List.getElem?_take, if_pos hjc]
  · rw [List.getElem?_append_right (by omega), hl]
    by_cases hf : f = 1 ∨ f = 3
    · rw [if_pos hf, if_pos (by omega), List.getElem?_drop, show c + (j - c) = j from by omega]
    · rw [if_neg hf, if_neg (by omega), List.getElem?_drop, show c + (j - c) = j from by omega]

/-- within a sector: so far the new one, then the old one -/
def RcIn (w3 : World) (pb pc : Nat) (T old : Bytes) (iv : Value) (wi : World) : Prop :=
  ∃ j : Nat, iv = .int .i64 (j : Int) ∧ j ≤ 128 ∧ OB wi w3.heap.size 5 (.slice (some ⟨pb, 0, none⟩) 128 pc) (T.take j ++ old.drop j) ∧ Below w3.heap.size w3 wi

theorem inner_facts {w3 wi : World} {pb pc : Nat} {f c : Nat} {old p : Bytes} {bv ofv cv j : Nat} (hO : OB wi w3.heap.size 5 (.slice (some ⟨pb, 0, none⟩) 128 pc) ((torn f c old p).take j ++ old.drop j)) (hB : Below w3.heap.size w3 wi)
    (h1 : old.length = 128) (h2 : p.length = 128) (hp : BS w3 (some ⟨bv, ofv, none⟩) cv p) (hc : c ≤ 128) (hj : j < 128) :
    (wi.cell? ⟨pb, j, none⟩ = some (.int .u8 ((old.getD j 0).toNat : Int)) ∧ wi.frozen? ⟨pb, j, none⟩ = false) ∧
    (∃ xb : Nat, (p.getD j 0).toNat = xb ∧ wi.cell? ⟨bv, ofv + j, none⟩ = some (.int .u8 (xb : Int)) ∧ (xb : Int) ≤ 255) ∧
    (f = 1 ∨ (f = 2 ∧ j < c) ∨ (f = 3 ∧ ¬ j < c) → ∀ xb : Nat, (p.getD j 0).toNat = xb → OB (wi.setCell ⟨pb, j, none⟩ (.int .u8 (xb : Int))) w3.heap.size 5 (.slice (some ⟨pb, 0, none⟩) 128 pc) ((torn f c old p).take (j + 1) ++ old.drop (j + 1))) ∧
    (¬ (f = 1 ∨ (f = 2 ∧ j < c) ∨ (f = 3 ∧ ¬ j < c)) → (torn f c old p).take (j + 1) ++ old.drop (j + 1) = (torn f c old p).take j ++ old.drop j) := by
  have hT := torn_length (fate := f) h1 h2 hc
  have hg := torn_get (f := f) h1 h2 hc j hj
  have hlen : ((torn f c old p).take j ++ old.drop j).length = 128 := by simp [hT, h1]; omega
  have hget : ((torn f c old p).take j ++ old.drop j)[j]? = some (old.getD j 0) := by
    rw [List.getElem?_append_right (by simp [hT]; omega), List.getElem?_drop, List.length_take, hT, show j + (j - min j 128) = j from by omega, List.getD_eq_getElem?_getD, List.getElem?_eq_getElem (by omega)]
    rfl
  have hsucc : ∀ x : UInt8, (torn f c old p).getD j 0 = x → (torn f c old p).take (j + 1) ++ old.drop (j + 1) = ((torn f c old p).take j ++ old.drop j).set j x := by
    intro x hx
    rw [List.set_append_right _ _ (by simp [hT]; omega), List.length_take, hT, show j - min j 128 = 0 from by omega, List.drop_eq_getElem_cons (show j < old.length by omega), List.set_cons_zero, List.take_succ_eq_append_getElem (by omega)]
    rw [List.getD_eq_getElem?_getD, List.getElem?_eq_getElem (by omega)] at hx
    simp only [Option.getD_some] at hx
    rw [hx]; simp
  unfold OB at hO
  rw [hlen] at hO
  obtain ⟨q1, q2⟩ := row_at hO j hj (u := u8v (old.getD j 0)) (by rw [List.getElem?_map, hget]; rfl)
  obtain ⟨b, off, e, hcell⟩ := BS.at (hp) (by omega)
  cases e
  have hpj := cell_later hB (hcell j (by omega))
  have hpg : p.getD j 0 = p[j]'(by omega) := by rw [List.getD_eq_getElem?_getD, List.getElem?_eq_getElem (by omega)]; rfl
  refine ⟨⟨q1, q2⟩, ⟨_, rfl, by rw [hpg]; exact hpj, by have := (p.getD j 0).toNat_lt; omega⟩, fun h xb hxb => ?_, fun h => ?_⟩
  · rw [if_pos h] at hg
    rw [hsucc _ hg]
    unfold OB
    rw [List.length_set, hlen, List.map_set]
    have := (row_store hO j (.int .u8 (xb : Int))).1
    rw [← hxb] at this ⊢
    exact this
  · rw [if_neg h] at hg
    rw [hsucc _ hg]
    exact List.ext_getElem? fun n => by
      by_cases hn : n = j
      · subst hn; rw [List.getElem?_set_self (by omega), hget]
      · rw [List.getElem?_set_ne (fun h => hn h.symm)]

def RcrRel (fates : Bytes) (c : Nat) (s : Sl) (w : World) (F : Nat → Prop) (B g dn dc : Nat) (wv iv : Value) (wr : World) : Prop :=
  ∃ k : Nat, iv = .int .i64 (k : Int) ∧ k ≤ s.way.length ∧ IsRf wr (Fnew F w.heap.size wr) B g dn dc wv { s with done := crD fates c s k } ∧ Chg [g, dn] w wr

theorem nilrcrash_calls (w : World) (v : Value) (n : Int) : Calls Try.prog 24 #[.pointer none, v, .int .i64 n] w fun e w' => e = .returned (.int .i64 6) ∧ w = w' := by
  go_enter Try.func24, Try.ntmps24
  go_wp2_with fail
  go_ret
  exact ⟨rfl, rfl⟩

set_option maxRecDepth 20000 in
set_option maxHeartbeats 2000000 in
theorem rcrash_calls (w : World) (F : Nat → Prop) (B g dn dc : Nat) (wv : Value) (s : Sl) (a : Option Addr) (cap : Nat) (fates : List UInt8) (cut : Int) (h : IsRf w F B g dn dc wv s) (hf : BS w a cap fates) (hoff : fates = [] ∨ ∀ x, a = some x → x.block ≠ g ∧ x.block ≠ dn)
    (hcut : -9223372036854775808 ≤ cut ∧ cut ≤ 9223372036854775807) :
    Calls Try.prog 24 #[.pointer (some ⟨g, 0, none⟩), .slice a fates.length cap, .int .i64 cut] w (RfTo w F B g dn dc (crashL s fates cut) 0) := by
  obtain ⟨c, hc⟩ : ∃ c, cutOf cut = c := ⟨_, rfl⟩
  have hc128 : c ≤ 128 := by rw [← hc]; exact cutOf_le cut
  have Hfront := hid (show ∀ j : Nat, j < 128 → ((j : Int) < cut ↔ j < c) from fun j hj => by rw [← hc]; unfold cutOf; omega)
  have Hc128 := hid hc128
  have Hc := hid hc
  have H := hid h
  have Fh := hid hf
  have Hoff := hid hoff
  have hBw := h.size
  have hwsm := h.ok.wsmall
  have hdsm := h.ok.small
  have hfl := hf.max'
  obtain ⟨aw, cw, LW, e1, _, hwle, hwm, _⟩ := h.way
  have hwlen : LW.length = s.way.length := by rw [← hwm]; simp
  have c1 := h.own.get 1 rfl
  rw [e1, hwlen] at c1
  have E1 := hid (show wv = .slice aw s.way.length cw from by rw [e1, hwlen])
  have hlen : (s.way.length : Int) ≤ 1000000 := by omega
  clear h hf hoff hc e1 hwm hwlen hc128
  go_enter Try.func24, Try.ntmps24
  go_wp2_with fail
  clear c1
  go_loopw [20] (fun iv wr => RcrRel fates c s w F B g dn dc wv iv wr) (fun iv _ => s.way.length - (intOf iv).toNat)
  case atStart => exact ⟨0, rfl, Nat.zero_le _, H.out.new w.heap.size hBw, Chg.refl _ _⟩
  case round =>
    obtain ⟨k, rfl, hk, hsl, hcw⟩ := hrel
    have S := hid hsl
    have Cw := hid hcw
    clear hsl hcw
    by_cases hkn : k < s.way.length
    · have hkn' : (k : Int) < (s.way.length : Int) := by omega
      obtain ⟨b, off, c', v, e2, q0, q1, hv⟩ := dLW_get S.out k hkn
      have e3 := E1.out.symm.trans e2
      simp only [Value.slice.injEq] at e3
      obtain ⟨rfl, _, rfl⟩ := e3
      obtain ⟨bv, ofv, cv, rfl, hvb, hvl, hvF, hvg, hvd⟩ := hv
      have hx := (S.out.ok.wsec _ (List.getElem_mem (l := s.way) (n := k) hkn))
      have Hfs := hid (crD_succ fates c s k hkn)
      dsimp only at q0 hvb hvl
      generalize s.way[k] = x at q0 hvb hvl hx Hfs
      obtain ⟨at', p⟩ := x
      dsimp only at q0 hvb hvl hx
      have dl : (crD fates c s k).length = s.done.length := crD_length _ _ _ _
      have hdl : at' < s.done.length := by omega
      have Hdl := hid hdl
      have hat : (at' : Int) < (s.done.length : Int) := by omega
      have Px0 := hid (And.intro hvb hvl)
      obtain ⟨vo, o1, _, hos⟩ := dLD_get S.out at' (by dsimp only; rw [dl]; exact hdl)
      obtain ⟨bo, oo, co, rfl, hob, hol, _⟩ := hos
      have HoldD := hid (show (crD fates c s k).getD at' [] = (crD fates c s k)[at']'(by rw [dl]; exact hdl) from by rw [List.getD_eq_getElem?_getD, List.getElem?_eq_getElem (by rw [dl]; exact hdl)]; rfl)
      dsimp only at hob hol
      generalize (crD fates c s k)[at']'(by rw [dl]; exact hdl) = old at hob hol HoldD
      have Old0 := hid (And.intro hob hol)
      have Do0 := hid o1
      have FF := hid (bs_keep Fh.out Cw.out (Hoff.out.imp id fun h x hx hm => by have := h x hx; simp at hm; omega))
      clear e2 hvb hvl hvF hvg hvd hx hdl hob hol o1
      obtain ⟨f, hf⟩ : ∃ f, fateOf fates k = f := ⟨_, rfl⟩
      have hf4 : f < 4 := by rw [← hf]; unfold fateOf; split <;> omega
      have Hf := hid hf
      clear hf
      go_upto_if 28 with fail
      have Bq := hid (blk_alloc wr [.int .i64 (at' : Int), .slice (some ⟨bv, ofv, none⟩) 128 cv] 72)
      have S3 := hid ((S.out.below (below_alloc wr (.cells #[.int .i64 (at' : Int), .slice (some ⟨bv, ofv, none⟩) 128 cv] 72))).wider (F' := Fnew F w.heap.size (wr.alloc (.cells #[.int .i64 (at' : Int), .slice (some ⟨bv, ofv, none⟩) 128 cv] 72))) (fun q hq => hq.imp id fun h => ⟨h.1, by simp; omega⟩) (fun q hq => by
        rcases hq with hq | hq
        · have := S.out.lt q (.inl hq); simp; omega
        · exact ⟨by omega, hq.2⟩))
      have C3 := hid (Cw.out.trans (Chg.of_below _ (below_alloc wr (.cells #[.int .i64 (at' : Int), .slice (some ⟨bv, ofv, none⟩) 128 cv] 72))))
      have Px := hid (And.intro (Px0.out.1.below (below_alloc wr (.cells #[.int .i64 (at' : Int), .slice (some ⟨bv, ofv, none⟩) 128 cv] 72))) Px0.out.2)
      have Old := hid (And.intro (Old0.out.1.below (below_alloc wr (.cells #[.int .i64 (at' : Int), .slice (some ⟨bv, ofv, none⟩) 128 cv] 72))) Old0.out.2)
      have Do := hid (And.intro (cell_later (below_alloc wr (.cells #[.int .i64 (at' : Int), .slice (some ⟨bv, ofv, none⟩) 128 cv] 72)) Do0.out) (show dn < (wr.alloc (.cells #[.int .i64 (at' : Int), .slice (some ⟨bv, ofv, none⟩) 128 cv] 72)).heap.size from by have := (S.out.lt _ S.out.inF.2.1).2; simp; omega))
      have FF1 := hid (FF.out.below (below_alloc wr (.cells #[.int .i64 (at' : Int), .slice (some ⟨bv, ofv, none⟩) 128 cv] 72)))
      have hw3 : w.heap.size ≤ (wr.alloc (.cells #[.int .i64 (at' : Int), .slice (some ⟨bv, ofv, none⟩) 128 cv] 72)).heap.size := C3.out.size
      have hq3 : wr.heap.size < (wr.alloc (.cells #[.int .i64 (at' : Int), .slice (some ⟨bv, ofv, none⟩) 128 cv] 72)).heap.size := by simp
      obtain ⟨q, hq⟩ : ∃ q, wr.heap.size = q := ⟨_, rfl⟩
      rw [hq] at Bq hq3 ⊢
      generalize wr.alloc (.cells #[.int .i64 (at' : Int), .slice (some ⟨bv, ofv, none⟩) 128 cv] 72) = w3 at Bq S3 C3 Px Old Do FF1 hw3 hq3 ⊢
      clear q0 q1 hq Px0 Old0 Do0
      go_cut [9] from 28 to 33 (fun v w' => v = .int .u8 (f : Int) ∧ w3 = w')
      case first =>
        by_cases hkf : k < fates.length
        · obtain ⟨bf, offf, rfl, hcf⟩ := FF1.out.at (by omega)
          have hcb := hcf k hkf
          have hfo := hid (show fateOf fates k = fates[k].toNat % 4 from by unfold fateOf; rw [if_pos hkf, List.getD_eq_getElem?_getD, List.getElem?_eq_getElem hkf]; rfl)
          have hxb := fates[k].toNat_lt
          generalize fates[k].toNat = x at hcb hfo hxb
          have hxb' : (x : Int) ≤ 255 := by omega
          have hkf' : (k : Int) < (fates.length : Int) := by omega
          clear hcf
          go_wp2_with fail
          go_meet
          have R : Value.int .u8 ((x : Int) % 4) = .int .u8 (f : Int) ∧ w3 = w3 := ⟨by rw [← Hf.out, hfo.out]; simp, rfl⟩
          first | exact R | ((repeat apply Exists.intro); refine ⟨R, ?_⟩; and_intros <;> rfl)
        · have hkf' : ¬ ((k : Int) < (fates.length : Int)) := by omega
          go_wp2_with fail
          go_meet
          have R : Value.int .u8 0 = .int .u8 (f : Int) ∧ w3 = w3 := ⟨by rw [← Hf.out, show fateOf fates k = 0 from if_neg hkf]; rfl, rfl⟩
          first | exact R | ((repeat apply Exists.intro); refine ⟨R, ?_⟩; and_intros <;> rfl)
      case rest =>
        obtain ⟨rfl, rfl⟩ := hcut
        have hf4' : f = 0 ∨ f = 1 ∨ f = 2 ∨ f = 3 := by omega
        have hf255 : (f : Int) ≤ 255 := by omega
        go_upto_region 9 with fail
        refine wp_region_chg 14 10 [] (fun idx v w' => match idx with
          | 0 => ∃ b, v = .slice (some ⟨b, 0, none⟩) 0 0 ∧ Blk w' b [] 5 ∧ w3.heap.size ≤ b
          | 1 | 2 | 3 => v = .pointer (some ⟨g, 0, none⟩)
          | 4 => v = .slice (some ⟨dn, 0, none⟩) s.done.length dc
          | 5 => v = .pointer (some ⟨q, 0, none⟩)
          | 6 => v = .int .i64 (at' : Int)
          | 7 => v = .pointer (some ⟨dn, at', none⟩)
          | 8 => v = .slice (some ⟨bo, oo, none⟩) 128 co
          | 9 => OB w' w3.heap.size 5 v old
          | _ => True) (by kernel_rfl) (by kernel_rfl) (by kernel_rfl) ?_ ?_ ?_ ?_
        · intro j v wx wy hR hb
          match j, hR with
          | 1, hR | 2, hR | 3, hR | 4, hR | 5, hR | 6, hR | 7, hR | 8, hR => exact hR
          | 0, hR => exact (by obtain ⟨b, e, h1, h2⟩ := hR; exact ⟨b, e, h1.below hb, h2⟩)
          | 9, hR => exact OB.below hR hb
          | _ + 10, _ => trivial
        · intro j v wx wy hne hR hb
          match j, hR with
          | 1, hR | 2, hR | 3, hR | 4, hR | 5, hR | 6, hR | 7, hR | 8, hR => exact hR
          | 0, hR => exact (by obtain ⟨b, e, h1, h2⟩ := hR; exact ⟨b, e, h1.below hb.below0, h2⟩)
          | 9, hR => exact OB.below hR hb.below0
          | _ + 10, _ => trivial
        · refine ⟨?_, ?_, ?_, ?_, ?_, ?_, ?_, ?_, ?_, ?_, trivial⟩
          all_goals intro ρ wx hE hc hg hf
          · have hE : Chg [] w3.drew wx := hE
            exact opOk_lit0 _ 5 rfl under_bytes info_u8 fun h => ⟨below_alloc wx _, wx.heap.size, rfl, h, hE.size⟩
          · intro h0; exact opOk_move _ rfl ⟨Below.refl _ _, h0⟩
          · intro (h0 : ρ (.tmp 35) = .pointer (some ⟨g, 0, none⟩))
            exact opOk_run (v := .pointer (some ⟨g, 0, none⟩)) (w' := wx) (by go_simp) ⟨Below.refl _ _, rfl⟩
          · intro (h0 : ρ (.tmp 36) = .pointer (some ⟨g, 0, none⟩))
            exact opOk_run (v := .pointer (some ⟨g, 0, none⟩)) (w' := wx) (by go_simp) ⟨Below.refl _ _, rfl⟩
          · intro (h0 : ρ (.tmp 37) = .pointer (some ⟨g, 0, none⟩))
            have c := ((S3.out.own.below (below_drew _)).keep (S := []) hE (by simp)).get 0 rfl
            dsimp only at c
            rw [dl] at c
            exact opOk_load _ _ rfl _ _ h0 (run_secl_at _ _ _ _ c) ⟨Below.refl _ _, rfl⟩
          · intro (h0 : ρ (.tmp 8) = .pointer (some ⟨q, 0, none⟩))
            exact opOk_run (v := .pointer (some ⟨q, 0, none⟩)) (w' := wx) (by go_simp) ⟨Below.refl _ _, rfl⟩
          · intro (h0 : ρ (.tmp 39) = .pointer (some ⟨q, 0, none⟩))
            have c := ((Bq.out.below (below_drew _)).keep (S := []) hE (by simp)).get 0 rfl
            exact opOk_load _ _ rfl _ _ h0 (run_int_at _ _ _ _ c) ⟨Below.refl _ _, rfl⟩
          · intro (h0 : ρ (.tmp 38) = .slice (some ⟨dn, 0, none⟩) s.done.length dc) (h1 : ρ (.tmp 40) = .int .i64 (at' : Int))
            exact opOk_run (v := .pointer (some ⟨dn, at', none⟩)) (w' := wx) (by go_simp) ⟨Below.refl _ _, rfl⟩
          · intro (h0 : ρ (.tmp 41) = .pointer (some ⟨dn, at', none⟩))
            have hE : Chg [] w3.drew wx := hE
            have c := World.cell?_of_block (w := w3.drew) (w' := wx) (a := ⟨dn, at', none⟩) (hE.block dn (by have := Do.out.2; exact this) (by simp))
            rw [show w3.drew.cell? ⟨dn, at', none⟩ = some (.slice (some ⟨bo, oo, none⟩) 128 co) from Do.out.1] at c
            exact opOk_load _ _ rfl _ _ h0 (run_bytes_at' _ _ _ _ c) ⟨Below.refl _ _, rfl⟩
          · intro ⟨b, h0, hB, hb⟩ (h1 : ρ (.tmp 42) = .slice (some ⟨bo, oo, none⟩) 128 co)
            have hE : Chg [] w3.drew wx := hE
            refine opOk_append_lit0 _ _ _ 5 rfl info_u8 under_bytes b h0 hB (a := some ⟨bo, oo, none⟩) (c := co) (l := old) ((Old.out.1.below (below_drew _)).below hE.below0) (by rw [h1, Old.out.2]) (by rw [Old.out.2]; omega) w3.heap.size hb fun v' w' h2 h3 => ⟨h3, h2⟩
        · intro wz hE
          rintro _ _ _ rfl _ rfl _ rfl _ rfl _ rfl _ rfl _ rfl _ rfl v9 h9
          simp only [PutLast, Act.put, List.setIfInBounds_toArray, List.set_cons_succ, List.set_cons_zero]
          obtain ⟨a9, c9, e9, hbs9, hof9⟩ := OB.bs h9
          subst e9
          have hl9 := Old.out.2
          rw [hl9] at h9 ⊢
          obtain ⟨pb, ofp, rfl, _⟩ := CS.at hbs9 (by simp [hl9])
          obtain ⟨h00, _, hpb, _⟩ := hof9 _ rfl
          dsimp only at h00 hpb
          subst h00
          refine opOk_assignV (.tmp 43) (.slice (some ⟨pb, 0, none⟩) 128 c9) rfl rfl ?_
          have hE3 : Below w3.heap.size w3 wz := (below_drew _).trans (hE.below0.mono (Nat.le_refl _))
          have Ow := hid h9
          have Bw := hid hE3
          clear hE hE3 h9 hbs9 hof9 hl9
          go_wp2_with fail
          go_loopw [46] (fun iv wq => RcIn w3 pb c9 (torn f c old p) old iv wq) (fun iv _ => 128 - (intOf iv).toNat)
          case atStart => exact ⟨0, rfl, by omega, by simpa using Ow.out, Bw.out⟩
          case round =>
            obtain ⟨j, rfl, hj, hOi, hBi⟩ := hrel
            have Oi := hid hOi
            have Bi := hid hBi
            clear hOi hBi
            by_cases hjn : j < 128
            · have hjn' : (j : Int) < 128 := by omega
              obtain ⟨p1, p2, p3, p4⟩ := inner_facts Oi.out Bi.out Old.out.2 Px.out.2 Px.out.1 Hc128.out hjn (f := f)
              obtain ⟨xb, hxb, hxc, hxl⟩ := p2
              have y0 := (Bq.out.belowAt Bi.out hq3).get 0 rfl
              have y1 := (Bq.out.belowAt Bi.out hq3).get 1 rfl
              have z1 := p1.1
              have z2 := p1.2
              have Hwr := hid (fun h => p3 h xb hxb)
              have Hsk := hid p4
              have Bw2 := hid (Bi.out.trans ((Below.refl w3.heap.size wr).setCell (p := ⟨pb, j, none⟩) (by exact hpb) (.int .u8 (xb : Int))))
              clear p1 p3 p4 hxb
              have hfr := Hfront.out j hjn
              by_cases hfc : (j : Int) < cut
              · have hjc : j < c := hfr.1 hfc
                rcases hf4' with h | h | h | h
                · have g1 : ((f : Int) == 1) = false := by rw [beq_eq_false_iff_ne]; omega
                  have g2 : ((f : Int) == 2) = false := by rw [beq_eq_false_iff_ne]; omega
                  have g3 : ((f : Int) == 3) = false := by rw [beq_eq_false_iff_ne]; omega
                  go_wp2_with fail
                  have R : RcIn w3 pb c9 (torn f c old p) old (.int .i64 ((j : Int) + 1)) wr := ⟨j + 1, by go_num, by omega, by rw [Hsk.out (by omega)]; exact Oi.out, Bi.out⟩
                  refine ⟨?_, by simp [intOf]; omega⟩
                  first | exact R | ((repeat apply Exists.intro); refine ⟨R, ?_⟩; and_intros <;> rfl)
                · have Ow2 := hid (Hwr.out (by omega))
                  have g1 : ((f : Int) == 1) = true := by rw [beq_iff_eq]; omega
                  have g2 : ((f : Int) == 2) = false := by rw [beq_eq_false_iff_ne]; omega
                  have g3 : ((f : Int) == 3) = false := by rw [beq_eq_false_iff_ne]; omega
                  go_wp2_with fail
                  have R : RcIn w3 pb c9 (torn f c old p) old (.int .i64 ((j : Int) + 1)) (wr.setCell ⟨pb, j, none⟩ (.int .u8 (xb : Int))) := ⟨j + 1, by go_num, by omega, Ow2.out, Bw2.out⟩
                  refine ⟨?_, by simp [intOf]; omega⟩
                  first | exact R | ((repeat apply Exists.intro); refine ⟨R, ?_⟩; and_intros <;> rfl)
                · have Ow2 := hid (Hwr.out (by omega))
                  have g1 : ((f : Int) == 1) = false := by rw [beq_eq_false_iff_ne]; omega
                  have g2 : ((f : Int) == 2) = true := by rw [beq_iff_eq]; omega
                  have g3 : ((f : Int) == 3) = false := by rw [beq_eq_false_iff_ne]; omega
                  go_wp2_with fail
                  have R : RcIn w3 pb c9 (torn f c old p) old (.int .i64 ((j : Int) + 1)) (wr.setCell ⟨pb, j, none⟩ (.int .u8 (xb : Int))) := ⟨j + 1, by go_num, by omega, Ow2.out, Bw2.out⟩
                  refine ⟨?_, by simp [intOf]; omega⟩
                  first | exact R | ((repeat apply Exists.intro); refine ⟨R, ?_⟩; and_intros <;> rfl)
                · have g1 : ((f : Int) == 1) = false := by rw [beq_eq_false_iff_ne]; omega
                  have g2 : ((f : Int) == 2) = false := by rw [beq_eq_false_iff_ne]; omega
                  have g3 : ((f : Int) == 3) = true := by rw [beq_iff_eq]; omega
                  go_wp2_with fail
                  have R : RcIn w3 pb c9 (torn f c old p) old (.int .i64 ((j : Int) + 1)) wr := ⟨j + 1, by go_num, by omega, by rw [Hsk.out (by omega)]; exact Oi.out, Bi.out⟩
                  refine ⟨?_, by simp [intOf]; omega⟩
                  first | exact R | ((repeat apply Exists.intro); refine ⟨R, ?_⟩; and_intros <;> rfl)
              · have hjc : ¬ j < c := fun h => hfc (hfr.2 h)
                rcases hf4' with h | h | h | h
                · have g1 : ((f : Int) == 1) = false := by rw [beq_eq_false_iff_ne]; omega
                  have g2 : ((f : Int) == 2) = false := by rw [beq_eq_false_iff_ne]; omega
                  have g3 : ((f : Int) == 3) = false := by rw [beq_eq_false_iff_ne]; omega
                  go_wp2_with fail
                  have R : RcIn w3 pb c9 (torn f c old p) old (.int .i64 ((j : Int) + 1)) wr := ⟨j + 1, by go_num, by omega, by rw [Hsk.out (by omega)]; exact Oi.out, Bi.out⟩
                  refine ⟨?_, by simp [intOf]; omega⟩
                  first | exact R | ((repeat apply Exists.intro); refine ⟨R, ?_⟩; and_intros <;> rfl)
                · have Ow2 := hid (Hwr.out (by omega))
                  have g1 : ((f : Int) == 1) = true := by rw [beq_iff_eq]; omega
                  have g2 : ((f : Int) == 2) = false := by rw [beq_eq_false_iff_ne]; omega
                  have g3 : ((f : Int) == 3) = false := by rw [beq_eq_false_iff_ne]; omega
                  go_wp2_with fail
                  have R : RcIn w3 pb c9 (torn f c old p) old (.int .i64 ((j : Int) + 1)) (wr.setCell ⟨pb, j, none⟩ (.int .u8 (xb : Int))) := ⟨j + 1, by go_num, by omega, Ow2.out, Bw2.out⟩
                  refine ⟨?_, by simp [intOf]; omega⟩
                  first | exact R | ((repeat apply Exists.intro); refine ⟨R, ?_⟩; and_intros <;> rfl)
                · have g1 : ((f : Int) == 1) = false := by rw [beq_eq_false_iff_ne]; omega
                  have g2 : ((f : Int) == 2) = true := by rw [beq_iff_eq]; omega
                  have g3 : ((f : Int) == 3) = false := by rw [beq_eq_false_iff_ne]; omega
                  go_wp2_with fail
                  have R : RcIn w3 pb c9 (torn f c old p) old (.int .i64 ((j : Int) + 1)) wr := ⟨j + 1, by go_num, by omega, by rw [Hsk.out (by omega)]; exact Oi.out, Bi.out⟩
                  refine ⟨?_, by simp [intOf]; omega⟩
                  first | exact R | ((repeat apply Exists.intro); refine ⟨R, ?_⟩; and_intros <;> rfl)
                · have Ow2 := hid (Hwr.out (by omega))
                  have g1 : ((f : Int) == 1) = false := by rw [beq_eq_false_iff_ne]; omega
                  have g2 : ((f : Int) == 2) = false := by rw [beq_eq_false_iff_ne]; omega
                  have g3 : ((f : Int) == 3) = true := by rw [beq_iff_eq]; omega
                  go_wp2_with fail
                  have R : RcIn w3 pb c9 (torn f c old p) old (.int .i64 ((j : Int) + 1)) (wr.setCell ⟨pb, j, none⟩ (.int .u8 (xb : Int))) := ⟨j + 1, by go_num, by omega, Ow2.out, Bw2.out⟩
                  refine ⟨?_, by simp [intOf]; omega⟩
                  first | exact R | ((repeat apply Exists.intro); refine ⟨R, ?_⟩; and_intros <;> rfl)
            · obtain rfl : j = 128 := by omega
              have hjn' : ¬ ((128 : Int) < 128) := by omega
              go_upto_region 17 with fail
              clear Ow Bw
              have Ow : Kept (OB wr w3.heap.size 5 (.slice (some ⟨pb, 0, none⟩) 128 c9) (torn f c old p)) := ⟨by
                have := Oi.out
                rwa [List.take_of_length_le (by rw [torn_length Old.out.2 Px.out.2 Hc128.out]; omega), List.drop_eq_nil_of_le (by rw [Old.out.2]; omega), List.append_nil] at this⟩
              have Bw := Bi
              clear Oi Bi
              have S4 := hid (S3.out.below Bw.out)
              have B4 := hid (Bq.out.belowAt Bw.out hq3)
              obtain ⟨w5, rfl⟩ : ∃ w5 : World, w5 = wr := ⟨_, rfl⟩
              refine wp_region_chg 12 8 [] (fun idx v w' => match idx with
                | 0 | 1 | 2 => v = .pointer (some ⟨g, 0, none⟩)
                | 3 => v = .slice (some ⟨dn, 0, none⟩) s.done.length dc
                | 4 => v = .pointer (some ⟨q, 0, none⟩)
                | 5 => v = .int .i64 (at' : Int)
                | 6 => v = .slice (some ⟨pb, 0, none⟩) 128 c9
                | 7 => v = .pointer (some ⟨dn, at', none⟩)
                | _ => True) (by kernel_rfl) (by kernel_rfl) (by kernel_rfl) ?_ ?_ ?_ ?_
              · intro j v wx wy hR hb
                match j, hR with
                | 0, hR | 1, hR | 2, hR | 3, hR | 4, hR | 5, hR | 6, hR | 7, hR => exact hR
                | _ + 8, _ => trivial
              · intro j v wx wy hne hR hb
                match j, hR with
                | 0, hR | 1, hR | 2, hR | 3, hR | 4, hR | 5, hR | 6, hR | 7, hR => exact hR
                | _ + 8, _ => trivial
              · refine ⟨?_, ?_, ?_, ?_, ?_, ?_, ?_, ?_, trivial⟩
                all_goals intro ρ wx hE hc hg hf
                · intro h0; exact opOk_move _ rfl ⟨Below.refl _ _, h0⟩
                · intro (h0 : ρ (.tmp 78) = .pointer (some ⟨g, 0, none⟩))
                  exact opOk_run (v := .pointer (some ⟨g, 0, none⟩)) (w' := wx) (by go_simp) ⟨Below.refl _ _, rfl⟩
                · intro (h0 : ρ (.tmp 79) = .pointer (some ⟨g, 0, none⟩))
                  exact opOk_run (v := .pointer (some ⟨g, 0, none⟩)) (w' := wx) (by go_simp) ⟨Below.refl _ _, rfl⟩
                · intro (h0 : ρ (.tmp 80) = .pointer (some ⟨g, 0, none⟩))
                  have c := ((S4.out.own.below (below_drew _)).keep (S := []) hE (by simp)).get 0 rfl
                  dsimp only at c
                  rw [dl] at c
                  exact opOk_load _ _ rfl _ _ h0 (run_secl_at _ _ _ _ c) ⟨Below.refl _ _, rfl⟩
                · intro (h0 : ρ (.tmp 8) = .pointer (some ⟨q, 0, none⟩))
                  exact opOk_run (v := .pointer (some ⟨q, 0, none⟩)) (w' := wx) (by go_simp) ⟨Below.refl _ _, rfl⟩
                · intro (h0 : ρ (.tmp 82) = .pointer (some ⟨q, 0, none⟩))
                  have c := ((B4.out.below (below_drew _)).keep (S := []) hE (by simp)).get 0 rfl
                  exact opOk_load _ _ rfl _ _ h0 (run_int_at _ _ _ _ c) ⟨Below.refl _ _, rfl⟩
                · intro h0; exact opOk_move _ rfl ⟨Below.refl _ _, h0⟩
                · intro (h0 : ρ (.tmp 81) = .slice (some ⟨dn, 0, none⟩) s.done.length dc) (h1 : ρ (.tmp 83) = .int .i64 (at' : Int))
                  exact opOk_run (v := .pointer (some ⟨dn, at', none⟩)) (w' := wx) (by go_simp) ⟨Below.refl _ _, rfl⟩
              · intro wzz hE
                rintro _ rfl _ rfl _ rfl _ rfl _ rfl _ rfl _ rfl _ rfl
                simp only [PutLast, Act.put, List.setIfInBounds_toArray, List.set_cons_succ, List.set_cons_zero]
                have hE5 : Below w3.heap.size w3 wzz := (Bw.out.trans ((below_drew w5).mono Bw.out.size)).trans (hE.below0.mono Bw.out.size)
                have hOz : OB wzz w3.heap.size 5 (.slice (some ⟨pb, 0, none⟩) 128 c9) (torn f c old p) := (Ow.out.below (below_drew w5)).below hE.below0
                have hput := rf_putsec (n0 := w.heap.size) S3.out hE5 at' (by dsimp only; rw [dl]; exact Hdl.out) _ (torn_length Old.out.2 Px.out.2 Hc128.out) hOz
                obtain ⟨_, q1, q2, _⟩ := dLD_get (S3.out.below hE5) at' (by dsimp only; rw [dl]; exact Hdl.out)
                refine opOk_store 22 (.tmp 85) (.tmp 84) rfl (.pointer (some ⟨dn, at', none⟩)) (.slice (some ⟨pb, 0, none⟩) 128 c9) rfl rfl (run_sec_store wzz dn at' _ (some ⟨pb, 0, none⟩) 128 c9 q1 q2) ?_
                have S5 := hid hput
                have C5 := hid ((C3.out.trans (Chg.of_below _ hE5)).trans ((chg_setCell wzz dn at' (.slice (some ⟨pb, 0, none⟩) 128 c9)).mono (T := [g, dn]) (by simp)))
                clear hput q1 q2 hE hE5 hOz
                go_wp2_with fail
                have R : RcrRel fates c s w F B g dn dc wv (.int .i64 ((k : Int) + 1)) (wzz.setCell ⟨dn, at', none⟩ (.slice (some ⟨pb, 0, none⟩) 128 c9)) := ⟨k + 1, by go_num, by omega, by rw [Hfs.out, Hf.out, HoldD.out]; exact S5.out, C5.out⟩
                refine ⟨?_, by simp [intOf]; omega⟩
                first | exact R | ((repeat apply Exists.intro); refine ⟨R, ?_⟩; and_intros <;> rfl)
    · obtain rfl : k = s.way.length := by omega
      have hkn' : ¬ ((s.way.length : Int) < (s.way.length : Int)) := by omega
      have c1 := S.out.own.get 1 rfl
      have f1 := S.out.own.free 1
      have c2 := S.out.own.get 2 rfl
      have f2 := S.out.own.free 2
      have c3 := S.out.own.get 3 rfl
      have f3 := S.out.own.free 3
      have hch : Chg [g] wr (((wr.setCell ⟨g, 1, none⟩ (.slice none 0 0)).setCell ⟨g, 2, none⟩ (.bool false)).setCell ⟨g, 3, none⟩ (.int .i64 0)) := ((chg_setCell wr g 1 _).trans (chg_setCell _ g 2 _)).trans (chg_setCell _ g 3 _)
      have hB := ((S.out.own.set 1 (.slice none 0 0)).set 2 (.bool false)).set 3 (.int .i64 0)
      simp only [List.set_cons_succ, List.set_cons_zero] at hB
      have hall : crD fates c s s.way.length = crashD fates (cutOf cut) 0 s.way s.done := by unfold crD; rw [List.take_length, Hc.out]
      have hF9 := rf_clear S.out hch (crashL s fates cut) (show crashD fates (cutOf cut) 0 s.way s.done = crD fates c s s.way.length from hall.symm) rfl ⟨by show ∀ p ∈ crashD fates (cutOf cut) 0 s.way s.done, _; rw [← hall]; exact S.out.ok.sec, by simp [crashL], by show (crashD fates (cutOf cut) 0 s.way s.done).length ≤ _; rw [← hall]; exact S.out.ok.small, by simp [crashL], S.out.ok.ssmall, by simp [crashL]⟩ hB
      have F9 := hid (hF9.wider (F' := Fnew F w.heap.size (((wr.setCell ⟨g, 1, none⟩ (.slice none 0 0)).setCell ⟨g, 2, none⟩ (.bool false)).setCell ⟨g, 3, none⟩ (.int .i64 0))) (fun q hq => hq.imp id fun h => ⟨h.1, by simp [World.setCell]; exact h.2⟩) (fun q hq => by
        rcases hq with hq | hq
        · have := S.out.lt q (.inl hq); simp [World.setCell]; omega
        · exact ⟨by omega, hq.2⟩))
      have C9 := hid (Cw.out.trans (hch.mono (T := [g, dn]) (by simp)))
      clear hch hB hF9 hall
      go_wp2_with fail
      go_ret
      exact ⟨_, rfl, F9.out, C9.out⟩
end Go.Proofs.Ytoegnlabneafkaa
