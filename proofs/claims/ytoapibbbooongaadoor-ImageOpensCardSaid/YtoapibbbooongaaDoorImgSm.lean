/- The law's own of layer 8: as the document has it; two images compared. -/
import Derived.Test.YtoapibbbooongaaDoorImgN
namespace Go.Proofs.YtoapibbbooongaaDoor
open Go.RowKit Go.Quad _root_.Quad _root_.Quad.Slab

theorem lt_of_cell8 {w : World} {a : Addr} {v : Value} (h : w.cell? a = some v) : a.block < w.heap.size := by
  unfold World.cell? at h
  split at h
  · rename_i hb; exact (Array.getElem?_eq_some_iff.1 hb).1
  · simp at h
def refV (x : Img) (bv av : Value) : List Value := [.int .u32 (x.job : Int), .int .u32 (x.ver : Int), .int .i64 x.credit, bv, av]
def zref : List Value := [.int .u32 0, .int .u32 0, .int .i64 0, .slice none 0 0, .slice none 0 0]
set_option maxRecDepth 100000 in
set_option maxHeartbeats 4000000 in
theorem back_calls (w : World) (x : Img) (ba : Option Addr) (bn bc : Nat) :
    Calls Tryd.prog 24 #[.agg (imgV x (.slice ba bn bc)).toArray] w fun e w' => e = .returned (.agg (refV x (.slice ba bn bc) (.slice none 0 0)).toArray) ∧ Below w.heap.size w w' := by
  unfold imgV refV
  obtain ⟨job, ver, cr, bl, at'⟩ := x
  dsimp only
  go_enter Tryd.func24, Tryd.ntmps24
  go_upto_region 1 with fail
  obtain ⟨q0, hq0⟩ : ∃ q0, w.heap.size = q0 := ⟨_, rfl⟩
  have b1 := below_alloc w (.cells #[.int .u32 (job : Int), .int .u32 (ver : Int), .int .i64 cr, .slice ba bn bc] 36)
  have x1 := blk_alloc w [.int .u32 (job : Int), .int .u32 (ver : Int), .int .i64 cr, .slice ba bn bc] 36
  have b2 := below_alloc (w.alloc (.cells #[.int .u32 (job : Int), .int .u32 (ver : Int), .int .i64 cr, .slice ba bn bc] 36)) (.cells #[.int .u32 0, .int .u32 0, .int .i64 0, .slice none 0 0, .slice none 0 0] 53)
  have x2 := blk_alloc (w.alloc (.cells #[.int .u32 (job : Int), .int .u32 (ver : Int), .int .i64 cr, .slice ba bn bc] 36)) [.int .u32 0, .int .u32 0, .int .i64 0, .slice none 0 0, .slice none 0 0] 53
  have z1 : (w.alloc (.cells #[.int .u32 (job : Int), .int .u32 (ver : Int), .int .i64 cr, .slice ba bn bc] 36)).heap.size = q0 + 1 := by simp; omega
  rw [z1] at x2
  have X1 := hid (x1.below b2)
  have Z2 := hid x2
  have B2 := hid (b1.trans (b2.mono b1.size))
  clear b1 x1 b2 x2 z1
  rw [hq0] at X1 ⊢
  have HQ0 := hid hq0
  clear hq0
  generalize ((w.alloc (.cells #[.int .u32 (job : Int), .int .u32 (ver : Int), .int .i64 cr, .slice ba bn bc] 36)).alloc (.cells #[.int .u32 0, .int .u32 0, .int .i64 0, .slice none 0 0, .slice none 0 0] 53)) = w2 at X1 Z2 B2 ⊢
  have k0 := X1.out.get 0 rfl
  have k1 := X1.out.get 1 rfl
  have k2 := X1.out.get 2 rfl
  have k3 := X1.out.get 3 rfl
  go_step
  repeat (first | (refine wpList_store_blk (o := ⟨none, _, 0, _, _, _⟩) 53 (.tmp 2) (.tmp 11) rfl rfl (q0 + 1) _ _ 53 rfl rfl Z2.out rfl (by kernel_rfl) (by simp [Value.oneCell']) ?_; intro wE hZE hCE) | go_step)
  refine bodyPost_ret (v := .agg #[.int .u32 (job : Int), .int .u32 (ver : Int), .int .i64 cr, .slice ba bn bc, .slice none 0 0]) (results_blk (fn := Tryd.f24) (p := 2) (ty := 53) rfl _ (q0 + 1) _ 53 rfl hZE ⟨_, Tryd.underlying53, rfl⟩ (by kernel_rfl)) rfl ?_
  exact ⟨rfl, B2.out.trans (hCE.below B2.out.size (by intro j hj; simp at hj; have := HQ0.out; omega))⟩
set_option maxRecDepth 100000 in
set_option maxHeartbeats 8000000 in
theorem isame_calls (w : World) (Q Q' : Nat → Prop) (x : Img) (ba : Option Addr) (bn bc : Nat) (aa : Option Addr) (an ac : Nat) (ba' : Option Addr) (bn' bc' : Nat) (aa' : Option Addr) (an' ac' : Nat) (h : BL w Q (.slice ba bn bc) x.blobs) (h' : BL w Q' (.slice ba' bn' bc') x.blobs) (hm : x.blobs.length ≤ 9223372036854775807) :
    Calls Tryd.prog 26 #[.agg (refV x (.slice ba bn bc) (.slice aa an ac)).toArray, .agg (refV x (.slice ba' bn' bc') (.slice aa' an' ac')).toArray] w fun e w' => e = .returned (.bool true) ∧ Below w.heap.size w w' := by
  have H := hid h
  have H' := hid h'
  obtain rfl : bn = x.blobs.length := h.len.1
  obtain rfl : bn' = x.blobs.length := h'.len.1
  clear h h'
  unfold refV
  obtain ⟨job, ver, cr, bl, at'⟩ := x
  dsimp only at *
  have hm' : (bl.length : Int) ≤ 9223372036854775807 := by omega
  go_enter Tryd.func26, Tryd.ntmps26
  go_upto_region 1 with fail
  obtain ⟨q0, hq0⟩ : ∃ q0, w.heap.size = q0 := ⟨_, rfl⟩
  have b1 := below_alloc w (.cells #[.int .u32 (job : Int), .int .u32 (ver : Int), .int .i64 cr, .slice ba bl.length bc, .slice aa an ac] 53)
  have x1 := blk_alloc w [.int .u32 (job : Int), .int .u32 (ver : Int), .int .i64 cr, .slice ba bl.length bc, .slice aa an ac] 53
  have b2 := below_alloc (w.alloc (.cells #[.int .u32 (job : Int), .int .u32 (ver : Int), .int .i64 cr, .slice ba bl.length bc, .slice aa an ac] 53)) (.cells #[.int .u32 (job : Int), .int .u32 (ver : Int), .int .i64 cr, .slice ba' bl.length bc', .slice aa' an' ac'] 53)
  have x2 := blk_alloc (w.alloc (.cells #[.int .u32 (job : Int), .int .u32 (ver : Int), .int .i64 cr, .slice ba bl.length bc, .slice aa an ac] 53)) [.int .u32 (job : Int), .int .u32 (ver : Int), .int .i64 cr, .slice ba' bl.length bc', .slice aa' an' ac'] 53
  have z1 : (w.alloc (.cells #[.int .u32 (job : Int), .int .u32 (ver : Int), .int .i64 cr, .slice ba bl.length bc, .slice aa an ac] 53)).heap.size = q0 + 1 := by simp; omega
  rw [z1] at x2
  have X1 := hid (x1.below b2)
  have X2 := hid x2
  have B2 := hid (b1.trans (b2.mono b1.size))
  clear b1 x1 b2 x2 z1
  rw [hq0] at X1 ⊢
  have HQ0 := hid hq0
  clear hq0
  generalize ((w.alloc (.cells #[.int .u32 (job : Int), .int .u32 (ver : Int), .int .i64 cr, .slice ba bl.length bc, .slice aa an ac] 53)).alloc (.cells #[.int .u32 (job : Int), .int .u32 (ver : Int), .int .i64 cr, .slice ba' bl.length bc', .slice aa' an' ac'] 53)) = w2 at X1 X2 B2 ⊢
  have k0 := X1.out.get 0 rfl
  have k1 := X1.out.get 1 rfl
  have k2 := X1.out.get 2 rfl
  have k3 := X1.out.get 3 rfl
  have j0 := X2.out.get 0 rfl
  have j1 := X2.out.get 1 rfl
  have j2 := X2.out.get 2 rfl
  have j3 := X2.out.get 3 rfl
  go_wp2_with fail
  go_loopw [5, 37] (fun _ iv wr => (∃ k : Nat, iv = .int .i64 (k : Int) ∧ k ≤ bl.length) ∧ Below w2.heap.size w2 wr) (fun _ iv _ => bl.length - (intOf iv).toNat)
  case atStart => exact ⟨⟨0, rfl, Nat.zero_le _⟩, Below.refl _ _⟩
  case round =>
    obtain ⟨⟨k, rfl, hk⟩, hb⟩ := hrel
    have HB := hid hb
    by_cases hlt : k < bl.length
    · have hlt' : (k : Int) < (bl.length : Int) := by omega
      have hbw := B2.out.trans (hb.mono B2.out.size)
      obtain ⟨b, off, rfl, _, v, hcell, a4, c4, rfl, hbs, _⟩ := (H.out.below hbw).at hlt
      obtain ⟨b', off', rfl, _, v', hcell', a5, c5, rfl, hbs', _⟩ := (H'.out.below hbw).at hlt
      obtain ⟨tt, htt⟩ : ∃ tt, bl.getD k [] = tt := ⟨_, rfl⟩
      rw [htt] at hcell hbs hcell' hbs'
      clear htt
      obtain ⟨n4, hn4⟩ : ∃ n4, tt.length = n4 := ⟨_, rfl⟩
      rw [hn4] at hcell hcell'
      have HL1 := hid (lt_of_cell8 hcell)
      have HL2 := hid (lt_of_cell8 hcell')
      have HC1 := hid hcell
      have HC2 := hid hcell'
      have MKS := hid fun (W : World) (hW : Below wr.heap.size wr W) => (show (W.cell? ⟨q0, 3, none⟩ = some (.slice (some ⟨b, off, none⟩) bl.length bc) ∧ W.cell? ⟨q0 + 1, 3, none⟩ = some (.slice (some ⟨b', off', none⟩) bl.length bc') ∧ W.cell? ⟨b, off + k, none⟩ = some (.slice a4 n4 c4) ∧ W.cell? ⟨b', off' + k, none⟩ = some (.slice a5 n4 c5) ∧ Below wr.heap.size wr W) from ⟨((X1.out.below HB.out).below hW).get 3 rfl, ((X2.out.below HB.out).below hW).get 3 rfl, (hW.cell HL1.out).trans HC1.out, (hW.cell HL2.out).trans HC2.out, hW⟩)
      have SB := hid fun (W : World) (h : W.cell? ⟨q0, 3, none⟩ = some (.slice (some ⟨b, off, none⟩) bl.length bc) ∧ W.cell? ⟨q0 + 1, 3, none⟩ = some (.slice (some ⟨b', off', none⟩) bl.length bc') ∧ W.cell? ⟨b, off + k, none⟩ = some (.slice a4 n4 c4) ∧ W.cell? ⟨b', off' + k, none⟩ = some (.slice a5 n4 c5) ∧ Below wr.heap.size wr W) => h.2.2.2.2
      have HC := hid fun (W : World) (hW : Below wr.heap.size wr W) => (show Calls Tryd.prog 33 #[.slice a4 n4 c4, .slice a5 n4 c5] W (fun e w' => e = .returned (.bool true) ∧ W = w') from (by have h0 := same_calls a4 a5 c4 c5 tt tt W (hbs.below hW) (hbs'.below hW); rw [hn4, beq_self_eq_true] at h0; exact h0))
      have HN4 := hid hn4
      clear hn4 hbs hbs' hcell hcell' hbw k0 k1 k2 k3 j0 j1 j2 j3
      go_upto_region 6 with fail
      go_region_held3 (fun W => (W.cell? ⟨q0, 3, none⟩ = some (.slice (some ⟨b, off, none⟩) bl.length bc) ∧ W.cell? ⟨q0 + 1, 3, none⟩ = some (.slice (some ⟨b', off', none⟩) bl.length bc') ∧ W.cell? ⟨b, off + k, none⟩ = some (.slice a4 n4 c4) ∧ W.cell? ⟨b', off' + k, none⟩ = some (.slice a5 n4 c5) ∧ Below wr.heap.size wr W))
        ((refine MKS.out _ ?_; first | with_reducible exact below_drew _ | with_reducible exact Below.refl _ _ | with_reducible exact SB.out _ (by assumption)))
        ((go_at_call 33; refine (HC.out _ (SB.out _ (by assumption))).mono ?_; rintro e w5 ⟨rfl, rfl⟩))
      have HR := hid (show Below w2.heap.size w2 wr.drew from HB.out.trans ((below_drew wr).mono HB.out.size))
      go_wp2_with fail
      refine ⟨?_, by simp [intOf]; omega⟩
      first | exact ⟨⟨k + 1, rfl, hlt⟩, HR.out⟩ | ((repeat apply Exists.intro); refine ⟨⟨⟨k + 1, rfl, hlt⟩, HR.out⟩, ?_⟩; and_intros <;> rfl)
    · have hlt' : ¬ ((k : Int) < (bl.length : Int)) := by omega
      clear k0 k1 k2 k3 j0 j1 j2 j3
      go_wp2_with fail
      go_ret
      exact ⟨rfl, B2.out.trans (HB.out.mono B2.out.size)⟩
def Anyw : Nat → Prop := fun _ => True
theorem open_any {s : Sl} {f n e : Nat} (q : Quiet s) (hf : f + n ≤ s.done.length) (hn : 0 < n) : openI s (f : Int) ((f + n : Nat) : Int) e = (some ⟨s, f, e, listI (seeG s f) n n, usedI n (listI (seeG s f) n n), false⟩, 0) := by
  unfold openI
  rw [if_neg (by omega), if_neg (by simp [q.on]), Int.toNat_natCast, show (((f + n : Nat) : Int) - (f : Int)).toNat = n from by omega]
theorem small_L {I : Im} (h : Inv I) : ∀ x ∈ I.L, ∀ b ∈ x.blobs, b.length ≤ 100000 := fun x hx b hb => Nat.le_trans (there_small (h.there x hx) b hb) (by omega)
theorem small_J (G : Sl) (f n k : Nat) : ∀ x ∈ listI (seeG G f) n k, ∀ b ∈ x.blobs, b.length ≤ 100000 := fun x hx b hb => by
  obtain ⟨a, ha, h⟩ := (lists (seeG G f) n k).src x hx
  exact Nat.le_trans (there_small h b hb) (by omega)
end Go.Proofs.YtoapibbbooongaaDoor
