/- The document's slab: a new one. -/
import Derived.Test.YtoapibbbooongaaDoorRfE
namespace Go.Proofs.YtoapibbbooongaaDoor
open Go.RowKit Go.Quad _root_.Quad.Slab

theorem run_secl_store (w : World) (g i : Nat) (old : Value) (a : Option Addr) (n c : Nat) (h : w.cell? ⟨g, i, none⟩ = some old) (hf : w.frozen? ⟨g, i, none⟩ = false) :
    (Instr.storeAt 34 (.pointer (some ⟨g, i, none⟩)) (.slice a n c)).run Tryd.prog w = .ok () (w.setCell ⟨g, i, none⟩ (.slice a n c)) := by go_simp

def p128 : List UInt8 := List.replicate 128 0
theorem ok_make128 (w : World) (o : Oper) (ρ : Operand → Value) (K : Value → World → Prop) (hc : ∀ c, ρ (.const c) = c) (ho : o.op = .makeSlice 33 (.const (.int .i64 128)) (.const (.int .i64 128)))
    (hk : ∀ w', OB w' w.heap.size 5 (.slice (some ⟨w.heap.size, 0, none⟩) 128 128) p128 → Below w.heap.size w w' → K (.slice (some ⟨w.heap.size, 0, none⟩) 128 128) w') : OpOk Tryd.prog o ρ w K := by
  obtain ⟨i, hi, hz0, hz1, hz2⟩ := info_parts info_u8
  obtain ⟨w', hrun, r1, r2⟩ := run_make_full (P := Tryd.prog) w w.heap.size 33 5 i _ 1 under_bytes hi hz0 hz1 .i64 .i64 128 (by rw [hz2]; decide) (by decide) (Nat.le_refl _)
  refine opOk_run (v := .slice (some ⟨w.heap.size, 0, none⟩) 128 128) (w' := w') ?_ (hk w' ?_ (grownBy_below r2 (Nat.le_refl _) (by simp)))
  · simp only [execOp, ho, hc, Sem.run_bind]
    have : ((128 : Nat) : Int) = 128 := rfl
    rw [this] at hrun
    rw [hrun]
    rfl
  · have h := row_made w' rfl r1
    unfold OB
    rw [show p128.map u8v = List.replicate 128 (.int .u8 0) from by unfold p128; rw [List.map_replicate]; rfl, show p128.length = 128 from by simp [p128]]
    exact h

def RnRel (w : World) (g n : Nat) (iv : Value) (wr : World) : Prop :=
  ∃ (k : Nat) (dv : Value) (LD : List (Value × List UInt8)), iv = .int .i64 (k : Int) ∧ k ≤ n ∧ Blk wr g [dv, .slice none 0 0, .bool false, .int .i64 0, .int .i64 0] 111 ∧
    wr.ownsRow w.heap.size 33 1 dv k (LD.flatMap dD) ∧ LD.map (·.2) = List.replicate k p128 ∧
    (∀ x ∈ LD, ∃ b off c, x.1 = .slice (some ⟨b, off, none⟩) 128 c ∧ BS wr (some ⟨b, off, none⟩) c x.2 ∧ x.2.length = 128 ∧ w.heap.size ≤ b ∧ b < wr.heap.size ∧ b ≠ g ∧ dv.ownBlock ≠ some b) ∧ dv.ownBlock ≠ some g ∧ Below w.heap.size w wr

theorem rnewno_calls (w : World) (n : Int) (h : n < 1 ∨ 4096 < n) : Calls Tryd.prog 16 #[.int .i64 n] w fun e w' => e = .returned (.tuple #[.pointer none, .int .i64 1]) ∧ w = w' := by
  by_cases h1 : n < 1
  · go_enter Tryd.func16, Tryd.ntmps16
    go_wp2_with fail
    go_ret2
    exact ⟨rfl, rfl⟩
  · have h1' : decide (n < 1) = false := by simpa using h1
    have h2 : 4096 < n := by omega
    go_enter Tryd.func16, Tryd.ntmps16
    go_wp2_with fail
    go_ret2
    exact ⟨rfl, rfl⟩

def RnTo (w : World) (n : Nat) (e : Ending) (w' : World) : Prop :=
  ∃ g dn dc, e = .returned (.tuple #[.pointer (some ⟨g, 0, none⟩), .int .i64 0]) ∧ IsRf w' (fun k => w.heap.size ≤ k ∧ k < w'.heap.size) w.heap.size g dn dc (.slice none 0 0) (newL n) ∧ Below w.heap.size w w'

set_option maxRecDepth 20000 in
set_option maxHeartbeats 1000000 in
theorem rnew_calls (w : World) (n : Nat) (h : 1 ≤ n ∧ n ≤ 4096) : Calls Tryd.prog 16 #[.int .i64 (n : Int)] w (RnTo w n) := by
  have h1 : ¬ ((n : Int) < 1) := by omega
  have h2 : ¬ (4096 < (n : Int)) := by omega
  go_enter Tryd.func16, Tryd.ntmps16
  go_wp2_with fail
  have G0 := hid (blk_alloc w [.slice none 0 0, .slice none 0 0, .bool false, .int .i64 0, .int .i64 0] 111)
  have B0 := hid (below_alloc w (.cells #[.slice none 0 0, .slice none 0 0, .bool false, .int .i64 0, .int .i64 0] 111))
  obtain ⟨g, hg⟩ : ∃ g, w.heap.size = g := ⟨_, rfl⟩
  rw [hg] at G0 ⊢
  have Hg := hid (show w.heap.size = g from hg)
  clear hg
  go_loopw [14] (fun iv wr => RnRel w g n iv wr) (fun iv _ => n - (intOf iv).toNat)
  case atStart => exact ⟨0, _, [], rfl, Nat.zero_le _, G0.out, World.ownsRow_nil _ _ _ _, rfl, by simp, by simp [Value.ownBlock], B0.out⟩
  case round =>
    obtain ⟨k, dv, LD, rfl, hk, hG, hR, hm, hsec, hdg, hB⟩ := hrel
    obtain ⟨B, hBe⟩ : ∃ B, B = w.heap.size := ⟨_, rfl⟩
    have HB := hid hBe
    have hgB := hid (show B ≤ g from by rw [hBe, Hg.out]; exact Nat.le_refl _)
    have Gx := hid hG
    have Rx := hid (show wr.ownsRow B 33 1 dv k (LD.flatMap dD) from by rw [hBe]; exact hR)
    have Hm := hid hm
    have Hsec := hid hsec
    have Bx := hid hB
    have hBw : B ≤ wr.heap.size := by rw [hBe]; exact hB.size
    have Hdg := hid hdg
    have Hdv := hid (show ∀ b, dv.ownBlock = some b → b < wr.heap.size from fun b hb => (World.ownsRow.lt hR b hb).2)
    clear hG hR hm hsec hdg hB hBe
    by_cases hkn : k < n
    · have hkn' : (k : Int) < (n : Int) := by omega
      go_upto_region 6 with fail
      refine wp_region_chg 14 7 dv.ownBlock.toList (fun idx v w' => match idx with
        | 0 | 1 | 2 => v = .pointer (some ⟨g, 0, none⟩)
        | 3 => v = .pointer (some ⟨g, 0, none⟩)
        | 4 => v = dv
        | 5 => ∃ b, v = .slice (some ⟨b, 0, none⟩) 128 128 ∧ OB w' wr.heap.size 5 (.slice (some ⟨b, 0, none⟩) 128 128) p128 ∧ wr.heap.size ≤ b
        | 6 => ∃ b5 b6, v = .slice (some ⟨b6, 0, none⟩) 1 1 ∧ Blk w' b6 [.slice (some ⟨b5, 0, none⟩) 128 128] 33 ∧ OB w' wr.heap.size 5 (.slice (some ⟨b5, 0, none⟩) 128 128) p128 ∧ wr.heap.size ≤ b5 ∧ wr.heap.size ≤ b6
        | 7 => (∃ a c, v = .slice a (k + 1) c) ∧ ∃ b5, w'.ownsRow B 33 1 v (k + 1) (LD.flatMap dD ++ [.slice (some ⟨b5, 0, none⟩) 128 128]) ∧ OB w' wr.heap.size 5 (.slice (some ⟨b5, 0, none⟩) 128 128) p128 ∧ wr.heap.size ≤ b5 ∧ (v.ownBlock = dv.ownBlock ∨ ∃ b, v.ownBlock = some b ∧ b5 < b)
        | 8 | 9 => v = .pointer (some ⟨g, 0, none⟩)
        | _ => True) (by kernel_rfl) (by kernel_rfl) (by kernel_rfl) ?_ ?_ ?_ ?_
      · intro j v wx wy hR hb
        match j, hR with
        | 0, hR | 1, hR | 2, hR | 3, hR | 4, hR | 8, hR | 9, hR => exact hR
        | 5, hR => exact (by obtain ⟨b, e, h1, h2⟩ := hR; exact ⟨b, e, h1.below hb, h2⟩)
        | 6, hR => exact (by obtain ⟨b5, b6, e, h1, h2, h3, h4⟩ := hR; exact ⟨b5, b6, e, h1.below hb, h2.below hb, h3, h4⟩)
        | 7, hR => exact (by obtain ⟨h0, b5, h1, h2, h3, h4⟩ := hR; exact ⟨h0, b5, ownsRow_chg h1 (Chg.of_below [] hb) (by simp), h2.below hb, h3, h4⟩)
        | _ + 10, _ => trivial
      · intro j v wx wy hne hR hb
        match j, hR with
        | 0, hR | 1, hR | 2, hR | 3, hR | 4, hR | 8, hR | 9, hR => exact hR
        | 5, hR => exact (by obtain ⟨b, e, h1, h2⟩ := hR; exact ⟨b, e, OB.chg h1 hb (fun q hq hm => by simp [Value.ownBlock] at hq; subst hq; have := Hdv.out b (by simpa using hm); omega), h2⟩)
        | 6, hR => exact (by obtain ⟨b5, b6, e, h1, h2, h3, h4⟩ := hR; exact ⟨b5, b6, e, h1.keep hb (fun hm => by have := Hdv.out b6 (by simpa using hm); omega), OB.chg h2 hb (fun q hq hm => by simp [Value.ownBlock] at hq; subst hq; have := Hdv.out b5 (by simpa using hm); omega), h3, h4⟩)
        | 7, _ => exact (hne rfl).elim
        | _ + 10, _ => trivial
      · refine ⟨?_, ?_, ?_, ?_, ?_, ?_, ?_, ?_, ?_, ?_, trivial⟩
        all_goals intro ρ wx hE hc hg hf
        · intro h0; exact opOk_move _ rfl ⟨Below.refl _ _, h0⟩
        · intro h0; exact opOk_move _ rfl ⟨Below.refl _ _, h0⟩
        · intro (h0 : ρ (.tmp 17) = .pointer (some ⟨g, 0, none⟩))
          exact opOk_run (v := .pointer (some ⟨g, 0, none⟩)) (w' := wx) (by go_simp) ⟨Below.refl _ _, rfl⟩
        · intro (h0 : ρ (.tmp 18) = .pointer (some ⟨g, 0, none⟩))
          exact opOk_run (v := .pointer (some ⟨g, 0, none⟩)) (w' := wx) (by go_simp) ⟨Below.refl _ _, rfl⟩
        · intro (h0 : ρ (.tmp 19) = .pointer (some ⟨g, 0, none⟩))
          have hE : Chg dv.ownBlock.toList wr.drew wx := hE
          have c := ((Gx.out.below (below_drew _)).keep hE (fun hm => Hdg.out (by simpa using hm))).get 0 rfl
          exact opOk_load _ _ rfl _ _ h0 (run_secl_at _ _ _ _ c) ⟨Below.refl _ _, rfl⟩
        · have hE : Chg dv.ownBlock.toList wr.drew wx := hE
          exact ok_make128 wx _ ρ _ hc rfl fun w' h1 h2 => ⟨h2, wx.heap.size, rfl, h1.base hE.size, hE.size⟩
        · intro ⟨b, h0, hB, hb⟩
          have hE : Chg dv.ownBlock.toList wr.drew wx := hE
          refine opOk_run (v := .slice (some ⟨wx.heap.size, 0, none⟩) 1 1) (w' := wx.alloc (.cells #[.slice (some ⟨b, 0, none⟩) 128 128] 33)) (by go_simp) ⟨below_alloc wx _, b, wx.heap.size, rfl, blk_alloc wx [.slice (some ⟨b, 0, none⟩) 128 128] _, hB.below (below_alloc wx _), hb, hE.size⟩
        · intro h0 ⟨b5, b6, h1, hB6, hB5, hb5, hb6⟩
          have hE : Below wr.drew.heap.size wr.drew wx := hE
          have hown : wx.ownsRow B 33 1 dv k (LD.flatMap dD) := ownsRow_chg (ownsRow_chg Rx.out (Chg.of_below [] (below_drew _)) (by simp)) (Chg.of_below [] hE) (by simp)
          refine opOk_append _ _ _ rfl B 33 (.slice none 0 0) 1 24 info_sec rfl (by decide) under_secs dv _ _ h0 hown ⟨b6, 0, none⟩ 1 1 [.slice (some ⟨b5, 0, none⟩) 128 128] h1 rfl
            (fun j u hu => by rw [Addr.add_mid, Nat.zero_add, hB6.cell]; exact hu) (by simp [Value.oneCell']) (by unfold maxLen; omega) (by omega) (by have := hE.size; have h2 : wr.drew.heap.size = wr.heap.size := rfl; omega) ?_
          intro v' w3 h2 h3 h4
          refine ⟨chg_grownBy h3, (by obtain ⟨a, c, e, _⟩ := ownsRow_cs h2; exact ⟨a, c, e⟩), b5, h2, OB.chg hB5 (chg_grownBy h3) (fun q hq hm => by simp [Value.ownBlock] at hq; subst hq; have := Hdv.out b5 (by simpa using hm); omega), hb5, h4.imp id fun h => ⟨_, h, (World.ownsRow.lt hB5 b5 rfl).2⟩⟩
        · intro (h0 : ρ (.tmp 16) = .pointer (some ⟨g, 0, none⟩))
          exact opOk_run (v := .pointer (some ⟨g, 0, none⟩)) (w' := wx) (by go_simp) ⟨Below.refl _ _, rfl⟩
        · intro (h0 : ρ (.tmp 24) = .pointer (some ⟨g, 0, none⟩))
          exact opOk_run (v := .pointer (some ⟨g, 0, none⟩)) (w' := wx) (by go_simp) ⟨Below.refl _ _, rfl⟩
      · intro wz hE
        rintro _ rfl _ rfl _ rfl _ rfl dv rfl _ _ _ _ _ ⟨⟨a7, c7, rfl⟩, b5, h7, hB5, hb5, hv7⟩ _ rfl _ rfl
        simp only [PutLast, Act.put, List.setIfInBounds_toArray, List.set_cons_succ, List.set_cons_zero]
        have hG := (Gx.out.below (below_drew _)).keep hE (fun hm => Hdg.out (by simpa using hm))
        refine opOk_store 34 (.tmp 25) (.tmp 23) rfl (.pointer (some ⟨g, 0, none⟩)) (.slice a7 (k + 1) c7) rfl rfl (run_secl_store wz g 0 _ a7 (k + 1) c7 (hG.get 0 rfl) (hG.free 0)) ?_
        have hG2 := hG.set 0 (.slice a7 (k + 1) c7)
        simp only [List.set_cons_zero] at hG2
        have hch : Chg [g] wz (wz.setCell ⟨g, 0, none⟩ (.slice a7 (k + 1) c7)) := chg_setCell wz g 0 _
        have hne7 : (Value.slice a7 (k + 1) c7).ownBlock ≠ some g := by
          rcases hv7 with h | ⟨b, h, hl⟩
          · rw [h]; exact Hdg.out
          · rw [h]; intro e; cases e; have := Gx.out.lt; omega
        have hR : RnRel w g n (.int .i64 ((k : Int) + 1)) (wz.setCell ⟨g, 0, none⟩ (.slice a7 (k + 1) c7)) := by
          refine ⟨k + 1, _, LD ++ [(.slice (some ⟨b5, 0, none⟩) 128 128, p128)], by go_num, by omega, hG2, ?_, by rw [List.map_append, Hm.out]; simp [List.replicate_succ'], ?_, hne7, ?_⟩
          · rw [List.flatMap_append, List.flatMap_singleton]
            rw [← HB.out]
            exact ownsRow_chg h7 hch (fun q hq hm => by simp at hm; subst hm; exact hne7 hq)
          · have hw1 : Chg (g :: dv.ownBlock.toList) wr (wz.setCell ⟨g, 0, none⟩ (.slice a7 (k + 1) c7)) := ((Chg.of_below _ (below_drew wr)).trans (hE.mono (by intro q hq; exact .inl (List.mem_cons_of_mem _ hq)))).trans (hch.mono (by simp))
            intro x hx
            rcases List.mem_append.1 hx with hx | hx
            · obtain ⟨b, off, c, e, hbs, hl, hbB, hbl, hbg, hbd⟩ := Hsec.out x hx
              refine ⟨b, off, c, e, cs_chg hbs hw1 ?_, hl, hbB, Nat.lt_of_lt_of_le hbl hw1.size, hbg, ?_⟩
              · rintro y ⟨⟩ hm
                simp only [List.mem_cons, Option.mem_toList] at hm
                rcases hm with hm | hm
                · exact hbg hm
                · exact hbd hm
              · rcases hv7 with h | ⟨b', h, hl'⟩
                · rw [h]; exact hbd
                · rw [h]; intro e'; cases e'; omega
            · rw [List.mem_singleton] at hx
              subst hx
              have hgl := Gx.out.lt
              have hlt5 := (World.ownsRow.lt hB5 b5 rfl).2
              refine ⟨b5, 0, 128, rfl, ?_, by simp [p128], by have := HB.out; omega, by have := hch.size; omega, by omega, ?_⟩
              · obtain ⟨a', c', e', hbs, _⟩ := (OB.chg hB5 hch (by intro q hq hm; simp [Value.ownBlock] at hq; subst hq; simp at hm; omega)).bs
                simp only [Value.slice.injEq] at e'
                obtain ⟨rfl, _, rfl⟩ := e'
                exact hbs
              · rcases hv7 with h | ⟨b', h, hl'⟩
                · rw [h]; intro e'; have := Hdv.out b5 e'; omega
                · rw [h]; intro e'; cases e'; omega
          · refine Bx.out.trans ((((Chg.of_below _ (below_drew wr)).trans hE).below (B := w.heap.size) Bx.out.size ?_).trans (hch.below (B := w.heap.size) (by have := Bx.out.size; have := hE.size; have h2 : wr.drew.heap.size = wr.heap.size := rfl; omega) (by simp; rw [Hg.out]; exact Nat.le_refl _)))
            intro q hq
            rw [← HB.out]
            exact (World.ownsRow.lt Rx.out q (by simpa using hq)).1
        have R9 := hid hR
        clear hR hG hG2 hch hne7 hv7 h7 hB5 hE
        go_wp2_with fail
        refine ⟨?_, by simp [intOf]; omega⟩
        first | exact R9.out | ((repeat apply Exists.intro); refine ⟨R9.out, ?_⟩; and_intros <;> rfl)
    · obtain rfl : k = n := by omega
      have hkn' : ¬ ((k : Int) < (k : Int)) := by omega
      go_wp2_with fail
      go_ret2
      have hn0 : LD ≠ [] := by intro e; rw [e] at Hm; have := Hm.out; simp at this; omega
      have hLl : LD.length = k := by have := congrArg List.length Hm.out; simpa using this
      have hgl := Gx.out.lt
      have hR := Rx.out
      rcases hR.2 with ⟨_, hx⟩ | ⟨dn, dc, cur, hv, hb, hg', hnc, _⟩
      · omega
      · subst hv
        have hdn : dn ≠ g := fun e => Hdg.out (by rw [e]; rfl)
        have hdl : dn < wr.heap.size := (Array.getElem?_eq_some_iff.1 hg').1
        have hBB := HB.out
        refine ⟨g, dn, dc, rfl, ⟨?_, ⟨LD, ?_, by rw [Hm.out]; rfl, ?_⟩, ⟨none, 0, [], rfl, ⟨by simp, by simp [maxLen], fun _ => rfl, .inl rfl⟩, Nat.le_refl _, rfl, by simp, .inl rfl⟩, ok_new k h.2, ⟨⟨by have := hgB.out; omega, hgl⟩, ⟨by omega, hdl⟩, fun e => hdn e.symm⟩, fun q hq => hq⟩, Bx.out⟩
        · have := Gx.out
          simp only [newL, List.length_replicate]
          exact this
        · rw [show (newL k).done.length = k from by simp [newL], ← hBB]; exact hR
        · intro x hx
          obtain ⟨b, off, c, e, hbs, hl, hbB, hbl, hbg, hbd⟩ := Hsec.out x hx
          rw [e]
          exact ⟨b, off, c, rfl, hbs, hl, ⟨hbB, hbl⟩, hbg, fun e' => hbd (by rw [e']; rfl)⟩
end Go.Proofs.YtoapibbbooongaaDoor
