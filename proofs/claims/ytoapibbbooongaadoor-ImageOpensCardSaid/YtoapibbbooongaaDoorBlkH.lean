/- The walks of layer 6: the document reads a block. -/
import Derived.Test.YtoapibbbooongaaDoorBlkG
namespace Go.Quad
open Go.RowKit
theorem GuF.plainB {ops : Array Oper} {o : Oper} {R : Nat → Value → World → Prop} {i : Nat} {ρ : Operand → Value} {w : World} {C : Prop} (hg : o.guard = none) (h : C) : GuF ops o R i ρ w C := by unfold GuF; rw [hg]; exact h
theorem InF.nilB {ops : Array Oper} {o : Oper} {R : Nat → Value → World → Prop} {a0 : Act} {ρ : Operand → Value} {w : World} {l : List Operand} {C : Prop} (hl : l = []) (h : C) : InF ops o R a0 ρ w l C := by subst hl; exact h
theorem PutLast.lastNewB {P : Program} {R : Nat → Value → World → Prop} {w' : World} {Q : Exit → Act → World → Prop} {o o2 : Oper} {i : Nat} {a : Act} (cs : List Value) (t : TypeId) (B : Nat)
    (h : ∀ g, Blk w' g cs t → B ≤ g → OpOk P o2 (a.put o.dst (.pointer (some ⟨g, 0, none⟩))).eval w' fun u w'' => Q .normal ((a.put o.dst (.pointer (some ⟨g, 0, none⟩))).put o2.dst u) w'')
    (hR : ∀ v, R i v w' → ∃ g, v = .pointer (some ⟨g, 0, none⟩) ∧ Blk w' g cs t ∧ B ≤ g) : PutLast P [] R w' Q [o, o2] i a :=
  fun v hv => by
    obtain ⟨g, rfl, h1, h2⟩ := hR v hv
    exact h g h1 h2
theorem wpList_ok {P : Program} {w : World} {ops : Array Oper} {rest : List Oper} {o : Oper} {ac : Act} {Q : Exit → Act → World → Prop} (hw : Region.wanted o (yielded ops ac.tmps) = true)
    (h : OpOk P o ac.eval w fun v w' => wpList P ops Q rest (ac.put o.dst v) w') : wpList P ops Q (o :: rest) ac w := by
  unfold wpList
  rw [if_pos hw]
  left
  unfold Oper.wp
  unfold OpOk at h
  split at h
  · rename_i v w' e; rw [e]; exact h
  · rename_i w' e; rw [e]; exact h
  · rename_i f args w' e
    rw [e, Oper.upon_enter]
    refine h.mono ?_
    rintro e w'' ⟨v, rfl, hk⟩
    exact hk
  · exact h.elim
end Go.Quad
namespace Go.Proofs.YtoapibbbooongaaDoor
open Go.RowKit Go.Quad _root_.Quad _root_.Quad.Slab

theorem refsum_n (a : Option Addr) (cap n : Nat) (l : List UInt8) (w : World) (h : BS w a cap l) (hn : l.length = n) (hl : n ≤ 1000000) :
    Calls Tryd.prog 130 #[.slice a n cap] w fun e w' => e = .returned (.int .u32 ((crc l).toNat : Int)) ∧ Below w.heap.size w w' := by
  subst hn; exact refsum_calls a cap l w h hl

set_option maxRecDepth 100000 in
set_option maxHeartbeats 4000000 in
theorem rread_calls (w : World) (b c9 : Nat) (p : List UInt8) (h : BS w (some ⟨b, 0, none⟩) c9 p) (hp : p.length = 128) (hc9 : 128 ≤ c9) :
    Calls Tryd.prog 109 #[.slice (some ⟨b, 0, none⟩) 128 c9] w (BGetTo w (readB p)) := by
  obtain ⟨z, hz⟩ : ∃ z, w.heap.size = z := ⟨_, rfl⟩
  have HZ := hid (show Blk (w.alloc (.cells #[.int .u8 0, .int .u32 0, .int .u32 0, .int .u32 0, .slice none 0 0] 167)) z [.int .u8 0, .int .u32 0, .int .u32 0, .int .u32 0, .slice none 0 0] 167 from by rw [← hz]; exact blk_alloc w [.int .u8 0, .int .u32 0, .int .u32 0, .int .u32 0, .slice none 0 0] 167)
  have Hz := hid hz
  have H0 := hid (below_alloc w (.cells #[.int .u8 0, .int .u32 0, .int .u32 0, .int .u32 0, .slice none 0 0] 167))
  have HS1 := hid (show (w.alloc (.cells #[.int .u8 0, .int .u32 0, .int .u32 0, .int .u32 0, .slice none 0 0] 167)).heap.size = z + 1 from by rw [← hz]; simp)
  have P0 := hid h
  have PL := hid hp
  have PC := hid hc9
  have BZ0 := hid (show b ∉ ([] : List Nat) from by simp)
  obtain ⟨i0, hi0, hz0, hz1, hz2⟩ := info_parts info_u8
  have Hi := hid hi0; have Hz0 := hid hz0; have Hz1 := hid hz1; have Hz2 := hid hz2
  clear h hp hc9 hi0 hz0 hz1 hz2
  obtain ⟨eb, heb⟩ : ∃ eb, (p == List.replicate 128 0) = eb := ⟨_, rfl⟩
  have HEB := hid heb
  clear heb
  go_enter Tryd.func109, Tryd.ntmps109
  go_upto_if 8 with (first | (at_make; go_must (refine wpList_make_full _ rfl (.const (.int .i64 128)) (.const (.int .i64 128)) _ rfl (z + 1) 5 i0 (.int .u8 0) 1 under_bytes Hi.out Hz0.out Hz1.out .i64 .i64 _ _ 128 rfl rfl (by omega) (by omega) (by rw [Hz2.out]; omega) (by unfold maxLen; omega) (by rw [HS1.out]; exact Nat.le_refl _) ?_; intro w1 hown hgr; have hb1 := grownBy_below hgr (by rw [HS1.out]; exact Nat.le_refl _) (by simp); have hB := blk_of_owned (row_made _ (z := .int .u8 0) rfl hown); rw [HS1.out] at hB; have HB1 := hid hb1; have HB := hid hB; clear hown hgr hb1 hB)) | (go_at_call 33; refine (same_n _ _ 128 128 c9 128 p (List.replicate 128 0) _ ((P0.out.below H0.out).below (by rw [HS1.out]; exact HB1.out)) (bs_of_blk (by rw [List.map_replicate]; exact HB.out) (by simp) (by omega)) PL.out (by simp)).mono ?_; rintro e w' ⟨rfl, rfl⟩; rw [HEB.out]))
  have BB := hid (H0.out.trans (HB1.out.mono (by have := HS1.out; have := Hz.out; omega)))
  have ZB := hid (HZ.out.belowAt HB1.out (by omega))
  have PB := hid ((P0.out.below H0.out).below (by rw [HS1.out]; exact HB1.out))
  have WS := hid (show z + 1 ≤ w1.heap.size from by rw [← HS1.out]; have := HB1.out.size; exact this)
  have BB0 := hid (show w.heap.size + 1 ≤ w1.heap.size from by rw [Hz.out]; exact WS.out)
  clear HB HB1 H0 HZ HS1 P0 Hi Hz0 Hz1 Hz2
  cases eb
  case' true =>
    have HG := hid (show readB p = (blkZ, 6) from by unfold readB; rw [if_pos (by simpa using HEB.out)])
    go_upto_region 2 with fail
    go_step
    repeat (first | (refine wpList_store_blk (o := ⟨none, _, 0, _, _, _⟩) 167 (.tmp 2) (.tmp 9) rfl rfl z [.int .u8 0, .int .u32 0, .int .u32 0, .int .u32 0, .slice none 0 0] [.int .u8 0, .int .u32 0, .int .u32 0, .int .u32 0, .slice none 0 0] 167 rfl rfl ZB.out rfl (by kernel_rfl) (by simp [Value.oneCell']) ?_; intro wE hZE hCE) | go_step)
    refine bodyPost_ret (v := .tuple #[.agg [.int .u8 0, .int .u32 0, .int .u32 0, .int .u32 0, .slice none 0 0].toArray, .int .i64 6]) (results_blk2 (fn := Tryd.f109) (p := 2) (q := 3) (ty := 167) rfl _ z [.int .u8 0, .int .u32 0, .int .u32 0, .int .u32 0, .slice none 0 0] 167 (.int .i64 6) rfl rfl hZE ⟨_, Tryd.underlying167, rfl⟩ (by kernel_rfl)) rfl ?_
    exact bget_no (BB.out.trans (hCE.below BB.out.size (by simp; exact Nat.le_of_eq Hz.out))) HG.out
  have HNZ := hid (show p ≠ List.replicate 128 0 from by simpa using HEB.out)
  clear HEB
  obtain ⟨bb, hbb⟩ : ∃ bb, (p.drop 124 == le4 (crc (p.take 124)).toNat) = bb := ⟨_, rfl⟩
  have HBB := hid hbb
  clear hbb
  go_upto_region 3 with fail
  refine wp_region_chg 12 7 [] (fun idx v w' => match idx with
    | 0 | 2 => v = .slice (some ⟨b, 0, none⟩) 128 c9
    | 1 => ∃ a c, v = .slice a 4 c ∧ SB w1 b a c (p.drop 124)
    | 3 => v = .slice (some ⟨b, 0, none⟩) 124 c9
    | 4 => v = .int .u32 ((crc (p.take 124)).toNat : Int)
    | 5 => OB w' w1.heap.size 5 v (le4 (crc (p.take 124)).toNat)
    | 6 => v = .bool bb
    | _ => True) (by kernel_rfl) (by kernel_rfl) (by kernel_rfl) ?_ ?_ ?_ ?_
  · intro j v wx wy hR hb
    match j, hR with
    | 0, hR | 2, hR | 1, hR | 3, hR | 4, hR | 6, hR => exact hR
    | 5, hR => exact (OB.below hR hb)
    | _ + 7, _ => trivial
  · intro j v wx wy hne hR hb
    match j, hR with
    | 0, hR | 2, hR | 1, hR | 3, hR | 4, hR | 6, hR => exact hR
    | 5, hR => exact (OB.below hR hb.below0)
    | _ + 7, _ => trivial
  · refine ⟨?_, ?_, ?_, ?_, ?_, ?_, ?_, trivial⟩
    all_goals intro ρ wx hE hc hg hf
    · intro h0; exact opOk_move _ rfl ⟨Below.refl _ _, h0⟩
    · intro (h0 : ρ (.tmp 10) = .slice (some ⟨b, 0, none⟩) 128 c9)
      exact opOk_cutb (.tmp 10) (some (.const (.int .i64 124))) none rfl h0 PB.out 124 128 4 (.inl (by simp [hc])) (.inr ⟨rfl, rfl⟩) (by omega) (by have := PC.out; omega) rfl fun a' ha => ⟨Below.refl _ _, a', _, rfl, by rwa [List.take_of_length_le (by rw [List.length_drop, PL.out]; omega)] at ha⟩
    · intro h0; exact opOk_move _ rfl ⟨Below.refl _ _, h0⟩
    · intro (h0 : ρ (.tmp 12) = .slice (some ⟨b, 0, none⟩) 128 c9)
      exact opOk_bytes_head _ (.tmp 12) (.const (.int .i64 124)) rfl 5 under_bytes info_u8 h0 124 (hc _) (by have := PC.out; omega) ⟨Below.refl _ _, rfl⟩
    · intro (h0 : ρ (.tmp 13) = .slice (some ⟨b, 0, none⟩) 124 c9)
      have hE1 : Chg [] w1.drew wx := hE
      refine opOk_call (f := 130) (args := #[.slice (some ⟨b, 0, none⟩) 124 c9]) (by go_simp) ?_
      refine (refsum_n _ c9 124 (p.take 124) _ ((SB.chg ⟨PB.out, fun y hy => by cases hy; rfl⟩ hE1 BZ0.out).take 124) (by rw [List.length_take, PL.out]; rfl) (by omega)).mono ?_
      rintro e wy ⟨rfl, hbel⟩
      exact ⟨_, rfl, hbel, rfl⟩
    · intro (h0 : ρ (.tmp 14) = .int .u32 ((crc (p.take 124)).toNat : Int))
      have hE1 : Chg [] w1.drew wx := hE
      refine opOk_call (f := 129) (args := #[.int .u32 ((crc (p.take 124)).toNat : Int)]) (by go_simp) ?_
      refine (four_calls (crc (p.take 124)).toNat _ (crc (p.take 124)).isLt).mono ?_
      rintro e wy ⟨v5, rfl, ho5, hbel⟩
      exact ⟨v5, rfl, hbel, OB.base ho5 (by have := hE1.size; simpa using this)⟩
    · intro ⟨a0, c0, (h0 : ρ (.tmp 11) = .slice a0 4 c0), hb0⟩ h1
      have hE1 : Chg [] w1.drew wx := hE
      obtain ⟨a5, n5, c5, e5, hl5, hbs5, _⟩ := ob_n h1
      replace e5 : ρ (.tmp 15) = .slice a5 n5 c5 := e5
      refine opOk_call (f := 33) (args := #[.slice a0 4 c0, .slice a5 n5 c5]) (by go_simp) ?_
      refine (same_n a0 a5 4 n5 c0 c5 _ _ wx (hb0.chg hE1 BZ0.out) hbs5 (by rw [List.length_drop, PL.out]) hl5).mono ?_
      rintro e wy ⟨rfl, rfl⟩
      exact ⟨_, rfl, Below.refl _ _, congrArg Value.bool HBB.out⟩
  · intro wz hE
    rintro _ rfl _ _ _ rfl _ rfl _ rfl _ _ _ rfl
    simp only [PutLast, Act.put, List.setIfInBounds_toArray, List.set_cons_succ, List.set_cons_zero]
    refine opOk_run (v := .bool (!bb)) (w' := wz) (by go_simp) ?_
    have hw2 : Below w1.heap.size w1 wz := (below_drew _).trans ((show Chg [] w1.drew wz from hE).below0.mono (by simp))
    replace BB := hid (BB.out.trans (hw2.mono BB.out.size))
    replace ZB := hid (ZB.out.below hw2)
    replace PB := hid (PB.out.below hw2)
    replace WS := hid (Nat.le_trans WS.out hw2.size)
    clear hw2 hE
    cases bb
    case' false =>
      have HG := hid (show readB p = (blkZ, 5) from by rw [readB_ref PL.out]; unfold refreadB; rw [if_neg HNZ.out, if_pos (by rw [tailL_le4]; have := HBB.out; simpa using this)])
      go_upto_region 4 with fail
      go_step
      repeat (first | (refine wpList_store_blk (o := ⟨none, _, 0, _, _, _⟩) 167 (.tmp 2) (.tmp 18) rfl rfl z [.int .u8 0, .int .u32 0, .int .u32 0, .int .u32 0, .slice none 0 0] [.int .u8 0, .int .u32 0, .int .u32 0, .int .u32 0, .slice none 0 0] 167 rfl rfl ZB.out rfl (by kernel_rfl) (by simp [Value.oneCell']) ?_; intro wE hZE hCE) | go_step)
      refine bodyPost_ret (v := .tuple #[.agg [.int .u8 0, .int .u32 0, .int .u32 0, .int .u32 0, .slice none 0 0].toArray, .int .i64 5]) (results_blk2 (fn := Tryd.f109) (p := 2) (q := 3) (ty := 167) rfl _ z [.int .u8 0, .int .u32 0, .int .u32 0, .int .u32 0, .slice none 0 0] 167 (.int .i64 5) rfl rfl hZE ⟨_, Tryd.underlying167, rfl⟩ (by kernel_rfl)) rfl ?_
      exact bget_no (BB.out.trans (hCE.below BB.out.size (by simp; exact Nat.le_of_eq Hz.out))) HG.out
    have HSM := hid (show p.drop 124 = tailL (crc (p.take 124)) from by rw [tailL_le4]; have := HBB.out; simpa using this)
    clear HBB
    obtain ⟨w1, rfl⟩ : ∃ w1' : World, w1' = wz := ⟨_, rfl⟩
    go_upto_region 6 with (first | (refine wpListQ_alloc (o := ⟨some 4, _, _, _, _, _⟩) 216 rfl rfl #[.slice none 0 0] 1 (by kernel_rfl) ?_) | (refine wpListQ_store_new (o := ⟨none, _, 0, _, _, _⟩) rfl 216 (.tmp 4) (.tmp 20) rfl #[.slice none 0 0] #[.slice (some ⟨b, 0, none⟩) 128 c9] rfl rfl (by kernel_rfl) rfl (all_oneCell_toArray (by intro u hu; simp only [List.mem_cons, List.not_mem_nil, or_false] at hu; rcases hu with rfl; rfl)) ?_))
    obtain ⟨y, hy⟩ : ∃ y, w1.heap.size = y := ⟨_, rfl⟩
    have hw3 := below_alloc w1 (.cells #[.slice (some ⟨b, 0, none⟩) 128 c9] 216)
    have hYB := blk_alloc w1 [.slice (some ⟨b, 0, none⟩) 128 c9] 216
    replace BB := hid (BB.out.trans (hw3.mono BB.out.size))
    replace ZB := hid (ZB.out.below hw3)
    replace PB := hid (PB.out.below hw3)
    replace WS := hid (Nat.le_trans WS.out hw3.size)
    rw [hy] at hYB ⊢
    clear hw3 hy
    generalize (w1.alloc (.cells #[.slice (some ⟨b, 0, none⟩) 128 c9] 216)) = w2 at BB ZB PB WS hYB ⊢
    have YB := hid hYB
    clear hYB
    obtain ⟨w1, rfl⟩ : ∃ w1' : World, w1' = w2 := ⟨_, rfl⟩
    refine wp_region_chg 16 11 [] (fun idx v w' => match idx with
      | 0 => v = .slice (some ⟨b, 0, none⟩) 128 c9
      | 1 => v = .pointer (some ⟨b, 0, none⟩)
      | 2 => v = .int .u8 ((p.getD 0 0).toNat : Int)
      | 3 | 5 | 7 => v = .agg #[.slice (some ⟨b, 0, none⟩) 128 c9]
      | 4 => v = .int .u32 (get4 p 2 : Int)
      | 6 => v = .int .u32 (get4 p 6 : Int)
      | 8 => v = .int .u32 (get4 p 10 : Int)
      | 9 => v = .agg [.int .u8 ((p.getD 0 0).toNat : Int), .int .u32 (get4 p 2 : Int), .int .u32 (get4 p 6 : Int), .int .u32 (get4 p 10 : Int), .slice none 0 0].toArray
      | 10 => ∃ g5, v = .pointer (some ⟨g5, 0, none⟩) ∧ Blk w' g5 [.int .u8 0, .int .u32 0, .int .u32 0, .int .u32 0, .slice none 0 0] 167 ∧ w1.heap.size ≤ g5
      | _ => True) (by kernel_rfl) (by kernel_rfl) (by kernel_rfl) ?_ ?_ ?_ ?_
    · intro j v wx wy hR hb
      match j, hR with
      | 0, hR | 1, hR | 2, hR | 3, hR | 5, hR | 7, hR | 4, hR | 6, hR | 8, hR | 9, hR => exact hR
      | 10, hR => exact (by obtain ⟨g5, e, h1, h2⟩ := hR; exact ⟨g5, e, h1.below hb, h2⟩)
      | _ + 11, _ => trivial
    · intro j v wx wy hne hR hb
      match j, hR with
      | 0, hR | 1, hR | 2, hR | 3, hR | 5, hR | 7, hR | 4, hR | 6, hR | 8, hR | 9, hR => exact hR
      | 10, hR => exact (by obtain ⟨g5, e, h1, h2⟩ := hR; exact ⟨g5, e, h1.below hb.below0, h2⟩)
      | _ + 11, _ => trivial
    · refine ⟨?_, ?_, ?_, ?_, ?_, ?_, ?_, ?_, ?_, ?_, ?_, trivial⟩
      all_goals intro ρ wx hE hc hg hf
      · intro h0; exact opOk_move _ rfl ⟨Below.refl _ _, h0⟩
      · intro (h0 : ρ (.tmp 21) = .slice (some ⟨b, 0, none⟩) 128 c9)
        exact opOk_run (v := .pointer (some ⟨b, 0, none⟩)) (w' := wx) (by go_simp) ⟨Below.refl _ _, rfl⟩
      · intro (h0 : ρ (.tmp 22) = .pointer (some ⟨b, 0, none⟩))
        have hE1 : Chg [] w1.drew wx := hE
        have c := bs_cell (SB.chg ⟨PB.out, fun y hy => by cases hy; rfl⟩ hE1 BZ0.out) 0 (by rw [PL.out]; omega)
        exact opOk_load _ _ rfl _ _ h0 (run_u8_at _ _ _ _ c) ⟨Below.refl _ _, rfl⟩
      · intro (h0 : ρ (.tmp 4) = .pointer (some ⟨y, 0, none⟩))
        have hE1 : Chg [] w1.drew wx := hE
        exact opOk_load_row _ _ rfl y 0 [.slice (some ⟨b, 0, none⟩) 128 c9] h0 (Blk.range ((YB.out.below (below_drew _)).keep hE1 (by simp))) ⟨_, Tryd.underlying216, rfl⟩ (by kernel_rfl) ⟨Below.refl _ _, rfl⟩
      · intro (h0 : ρ (.tmp 24) = .agg #[.slice (some ⟨b, 0, none⟩) 128 c9])
        have hE1 : Chg [] w1.drew wx := hE
        refine opOk_call (f := 131) (args := #[.agg #[.slice (some ⟨b, 0, none⟩) 128 c9], .int .i64 2]) (by go_simp) ?_
        refine (at2_calls b c9 p _ (SB.chg ⟨PB.out, fun y hy => by cases hy; rfl⟩ hE1 BZ0.out) PL.out).mono ?_
        rintro e wy ⟨rfl, hbel⟩
        exact ⟨_, rfl, hbel, rfl⟩
      · intro (h0 : ρ (.tmp 4) = .pointer (some ⟨y, 0, none⟩))
        have hE1 : Chg [] w1.drew wx := hE
        exact opOk_load_row _ _ rfl y 0 [.slice (some ⟨b, 0, none⟩) 128 c9] h0 (Blk.range ((YB.out.below (below_drew _)).keep hE1 (by simp))) ⟨_, Tryd.underlying216, rfl⟩ (by kernel_rfl) ⟨Below.refl _ _, rfl⟩
      · intro (h0 : ρ (.tmp 26) = .agg #[.slice (some ⟨b, 0, none⟩) 128 c9])
        have hE1 : Chg [] w1.drew wx := hE
        refine opOk_call (f := 131) (args := #[.agg #[.slice (some ⟨b, 0, none⟩) 128 c9], .int .i64 6]) (by go_simp) ?_
        refine (at6_calls b c9 p _ (SB.chg ⟨PB.out, fun y hy => by cases hy; rfl⟩ hE1 BZ0.out) PL.out).mono ?_
        rintro e wy ⟨rfl, hbel⟩
        exact ⟨_, rfl, hbel, rfl⟩
      · intro (h0 : ρ (.tmp 4) = .pointer (some ⟨y, 0, none⟩))
        have hE1 : Chg [] w1.drew wx := hE
        exact opOk_load_row _ _ rfl y 0 [.slice (some ⟨b, 0, none⟩) 128 c9] h0 (Blk.range ((YB.out.below (below_drew _)).keep hE1 (by simp))) ⟨_, Tryd.underlying216, rfl⟩ (by kernel_rfl) ⟨Below.refl _ _, rfl⟩
      · intro (h0 : ρ (.tmp 28) = .agg #[.slice (some ⟨b, 0, none⟩) 128 c9])
        have hE1 : Chg [] w1.drew wx := hE
        refine opOk_call (f := 131) (args := #[.agg #[.slice (some ⟨b, 0, none⟩) 128 c9], .int .i64 10]) (by go_simp) ?_
        refine (at10_calls b c9 p _ (SB.chg ⟨PB.out, fun y hy => by cases hy; rfl⟩ hE1 BZ0.out) PL.out).mono ?_
        rintro e wy ⟨rfl, hbel⟩
        exact ⟨_, rfl, hbel, rfl⟩
      · intro (h0 : ρ (.tmp 23) = .int .u8 ((p.getD 0 0).toNat : Int)) (h1 : ρ (.tmp 25) = .int .u32 (get4 p 2 : Int)) (h2 : ρ (.tmp 27) = .int .u32 (get4 p 6 : Int)) (h3 : ρ (.tmp 29) = .int .u32 (get4 p 10 : Int))
        exact opOk_run (v := .agg [.int .u8 ((p.getD 0 0).toNat : Int), .int .u32 (get4 p 2 : Int), .int .u32 (get4 p 6 : Int), .int .u32 (get4 p 10 : Int), .slice none 0 0].toArray) (w' := wx) (by go_simp) ⟨Below.refl _ _, rfl⟩
      · have hE1 : Chg [] w1.drew wx := hE
        refine GuF.plainB rfl (InF.nilB rfl ?_)
        exact opOk_run (v := .pointer (some ⟨wx.heap.size, 0, none⟩)) (w' := wx.alloc (.cells [.int .u8 0, .int .u32 0, .int .u32 0, .int .u32 0, .slice none 0 0].toArray 167)) (by go_simp) ⟨below_alloc _ _, wx.heap.size, rfl, blk_alloc wx [.int .u8 0, .int .u32 0, .int .u32 0, .int .u32 0, .slice none 0 0] 167, by have := hE1.size; simpa using this⟩
    · intro wz hE
      rintro _ rfl _ rfl _ rfl _ rfl _ rfl _ rfl _ rfl _ rfl _ rfl _ rfl
      simp only [Act.put, List.setIfInBounds_toArray, List.set_cons_succ, List.set_cons_zero]
      refine PutLast.lastNewB [.int .u8 0, .int .u32 0, .int .u32 0, .int .u32 0, .slice none 0 0] 167 w1.heap.size ?_ (fun v h => h)
      refine fun g5 hM hg5 => ?_
      simp only [Act.put, List.setIfInBounds_toArray, List.set_cons_succ, List.set_cons_zero]
      refine opOk_store_row 167 (.tmp 5) (.tmp 30) rfl g5 0 [.int .u8 ((p.getD 0 0).toNat : Int), .int .u32 (get4 p 2 : Int), .int .u32 (get4 p 6 : Int), .int .u32 (get4 p 10 : Int), .slice none 0 0] [.int .u8 0, .int .u32 0, .int .u32 0, .int .u32 0, .slice none 0 0] 167 rfl rfl hM (by simp only [List.length_cons, List.length_nil]; omega) (by kernel_rfl) (by intro u hu; simp only [List.mem_cons, List.not_mem_nil, or_false] at hu; rcases hu with rfl | rfl | rfl | rfl | rfl <;> rfl) ?_
      intro hM2 hC2
      have hE1 : Chg [] w1.drew wz := hE
      have hw2 : Below w1.heap.size w1 (wz.setCells g5 0 [.int .u8 ((p.getD 0 0).toNat : Int), .int .u32 (get4 p 2 : Int), .int .u32 (get4 p 6 : Int), .int .u32 (get4 p 10 : Int), .slice none 0 0]) := ((below_drew w1).trans (hE1.below0.mono (by simp))).trans (hC2.below (by have := hE1.size; simpa using this) (by simpa using hg5))
      have HG5 := hid (show w.heap.size < g5 from by have := WS.out; have := Hz.out; omega)
      have HBG := hid (show b ≠ g5 from fun e => by have := bs_cell PB.out 0 (by rw [PL.out]; omega); have := World.block_lt_of_cell? _ _ this; dsimp only at this; omega)
      replace BB := hid (BB.out.trans (hw2.mono BB.out.size))
      replace ZB := hid (ZB.out.below hw2)
      replace PB := hid (PB.out.below hw2)
      replace WS := hid (Nat.le_trans WS.out hw2.size)
      have GB := hid (show Blk _ g5 [.int .u8 ((p.getD 0 0).toNat : Int), .int .u32 (get4 p 2 : Int), .int .u32 (get4 p 6 : Int), .int .u32 (get4 p 10 : Int), .slice none 0 0] 167 from hM2)
      clear hw2 hE hE1 hM2 hC2 hM hg5 YB
      generalize wz.setCells g5 0 [.int .u8 ((p.getD 0 0).toNat : Int), .int .u32 (get4 p 2 : Int), .int .u32 (get4 p 6 : Int), .int .u32 (get4 p 10 : Int), .slice none 0 0] = w3 at BB ZB PB WS GB ⊢
      obtain ⟨k0, hk0⟩ : ∃ k0, (p.getD 0 0).toNat = k0 := ⟨_, rfl⟩
      obtain ⟨n, hn⟩ : ∃ n, nB p = n := ⟨_, rfl⟩
      have NB := hid hn
      have K0 := hid hk0
      have hn1 : (p.getD 1 0).toNat = n := hn
      have hnb : (n : Int) ≤ 255 := by have := (p.getD 1 0).toNat_lt; omega
      have hkb : (k0 : Int) ≤ 255 := by have := (p.getD 0 0).toNat_lt; omega
      rw [hk0] at GB ⊢
      have d0 := GB.out.get 0 rfl
      have d1 := bs_cell PB.out 1 (by rw [PL.out]; omega)
      rw [hn1] at d1
      clear hk0 hn hn1
      by_cases hk : k0 = 0
      case' pos =>
        have hk' : ((k0 : Int) == 0) = true := by simp; exact hk
        have HG := hid (show readB p = (blkZ, 4) from by rw [readB_ref PL.out]; unfold refreadB; rw [if_neg HNZ.out, if_neg (by simp [HSM.out]), if_pos (.inl (K0.out.trans hk))])
        clear hk
        go_upto_region 8 with fail
        go_step
        repeat (first | (refine wpList_store_blk (o := ⟨none, _, 0, _, _, _⟩) 167 (.tmp 2) (.tmp 40) rfl rfl z [.int .u8 0, .int .u32 0, .int .u32 0, .int .u32 0, .slice none 0 0] [.int .u8 0, .int .u32 0, .int .u32 0, .int .u32 0, .slice none 0 0] 167 rfl rfl ZB.out rfl (by kernel_rfl) (by simp [Value.oneCell']) ?_; intro wE hZE hCE) | go_step)
        refine bodyPost_ret (v := .tuple #[.agg [.int .u8 0, .int .u32 0, .int .u32 0, .int .u32 0, .slice none 0 0].toArray, .int .i64 4]) (results_blk2 (fn := Tryd.f109) (p := 2) (q := 3) (ty := 167) rfl _ z [.int .u8 0, .int .u32 0, .int .u32 0, .int .u32 0, .slice none 0 0] 167 (.int .i64 4) rfl rfl hZE ⟨_, Tryd.underlying167, rfl⟩ (by kernel_rfl)) rfl ?_
        exact bget_no (BB.out.trans (hCE.below BB.out.size (by simp; exact Nat.le_of_eq Hz.out))) HG.out
      have hk' : ((k0 : Int) == 0) = false := by simp; exact hk
      by_cases hN : 104 < n
      case' pos =>
        have hN' : (104 : Int) < (n : Int) := by omega
        have HG := hid (show readB p = (blkZ, 4) from by rw [readB_ref PL.out]; unfold refreadB; rw [if_neg HNZ.out, if_neg (by simp [HSM.out]), if_pos (.inr (by rw [NB.out]; exact hN))])
        clear hN
        go_upto_region 8 with fail
        go_step
        repeat (first | (refine wpList_store_blk (o := ⟨none, _, 0, _, _, _⟩) 167 (.tmp 2) (.tmp 40) rfl rfl z [.int .u8 0, .int .u32 0, .int .u32 0, .int .u32 0, .slice none 0 0] [.int .u8 0, .int .u32 0, .int .u32 0, .int .u32 0, .slice none 0 0] 167 rfl rfl ZB.out rfl (by kernel_rfl) (by simp [Value.oneCell']) ?_; intro wE hZE hCE) | go_step)
        refine bodyPost_ret (v := .tuple #[.agg [.int .u8 0, .int .u32 0, .int .u32 0, .int .u32 0, .slice none 0 0].toArray, .int .i64 4]) (results_blk2 (fn := Tryd.f109) (p := 2) (q := 3) (ty := 167) rfl _ z [.int .u8 0, .int .u32 0, .int .u32 0, .int .u32 0, .slice none 0 0] 167 (.int .i64 4) rfl rfl hZE ⟨_, Tryd.underlying167, rfl⟩ (by kernel_rfl)) rfl ?_
        exact bget_no (BB.out.trans (hCE.below BB.out.size (by simp; exact Nat.le_of_eq Hz.out))) HG.out
      have hN' : ¬ ((104 : Int) < (n : Int)) := by omega
      have hN2 : (n : Int) ≤ 104 := by omega
      have HN := hid (show n ≤ 104 from by omega)
      have HK := hid hk
      clear hk hN
      have hgl := GB.out.lt
      have hbl := World.block_lt_of_cell? w3 ⟨b, 1, none⟩ d1
      dsimp only at hbl
      go_upto_region 10 with (first | (refine wpList_ok (o := ⟨some 48, _, _, _, _, _⟩) rfl ?_; refine opOk_cutb (.tmp 42) (some (.const (.int .i64 14))) (some (.tmp 47)) rfl rfl PB.out 14 (14 + n) n (.inl rfl) (.inl (show some (Value.int .i64 (14 + (n : Int))) = some (Value.int .i64 ((14 + n : Nat) : Int)) from by rw [Int.natCast_add]; rfl)) (by omega) (by have := PC.out; have := HN.out; omega) (by omega) ?_; intro a48 hb48; have H48 := hid hb48.1; clear hb48) | (at_builtin; refine wpList_append_lit0 (.tmp 41) (.tmp 48) _ rfl rfl 5 info_u8 under_bytes rfl H48.out n (by rw [List.length_take, List.length_drop, PL.out]; have := HN.out; omega) rfl (by rw [List.length_take]; have := HN.out; omega) ?_; intro v9 w4 ho9 hb9; obtain ⟨a9, n9, c49, e9, hl9, _, _⟩ := ob_n ho9; obtain rfl : n = n9 := (by rw [← hl9, List.length_take, List.length_drop, PL.out]; have := HN.out; omega); subst e9; have O9 := hid ho9; have B9 := hid hb9; have GB4 := hid (GB.out.belowAt hb9 hgl); have d4 := GB4.out.get 4 rfl; have f4 := GB4.out.free 4; clear ho9 hb9 hl9))
      have hc5 := chg_setCell w4 g5 4 (.slice a9 n c49)
      have hG5 : Blk (w4.setCell ⟨g5, 4, none⟩ (.slice a9 n c49)) g5 [.int .u8 (k0 : Int), .int .u32 (get4 p 2 : Int), .int .u32 (get4 p 6 : Int), .int .u32 (get4 p 10 : Int), .slice a9 n c49] 167 := GB4.out.set 4 (.slice a9 n c49)
      have hb5 : Below w.heap.size w3 (w4.setCell ⟨g5, 4, none⟩ (.slice a9 n c49)) := (B9.out.mono BB.out.size).trans (hc5.below (Nat.le_trans BB.out.size B9.out.size) (by have := HG5.out; simp; omega))
      have hzz : z < w3.heap.size := ZB.out.lt
      have hO5 : OB (w4.setCell ⟨g5, 4, none⟩ (.slice a9 n c49)) (z + 1) 5 (.slice a9 n c49) ((p.drop 14).take n) := (O9.out.chg hc5 (fun q hq hm => by have := OB.ownBlock O9.out q hq; simp at hm; omega)).base WS.out
      have hZ5 : Blk (w4.setCell ⟨g5, 4, none⟩ (.slice a9 n c49)) z [.int .u8 0, .int .u32 0, .int .u32 0, .int .u32 0, .slice none 0 0] 167 := (ZB.out.belowAt B9.out hzz).keep hc5 (by have := HG5.out; have := Hz.out; simp; omega)
      have hP5 : BS (w4.setCell ⟨g5, 4, none⟩ (.slice a9 n c49)) (some ⟨b, 0, none⟩) c9 p := cs_chg (PB.out.below B9.out) hc5 (fun q hq hm => by cases hq; have := HBG.out; simp at hm; exact this hm)
      replace BB := hid (BB.out.trans hb5)
      replace ZB := hid hZ5
      replace PB := hid hP5
      replace GB := hid hG5
      have O5 := hid hO5
      clear hc5 hG5 hb5 hzz hO5 hZ5 hP5 GB4 O9 B9 H48 d0 d1 d4 f4 hgl hbl
      generalize (w4.setCell ⟨g5, 4, none⟩ (.slice a9 n c49)) = w5 at BB ZB PB GB O5 ⊢
      obtain ⟨fb, hfb⟩ : ∃ fb, (encB (ofB p) == p) = fb := ⟨_, rfl⟩
      have HFB := hid hfb
      clear hfb
      have hdat : (ofB p).data = (p.drop 14).take n := by rw [← NB.out]; rfl
      have hC := bytes_calls a9 n c49 (ofB p) w5 (ofB_ok p) (by rw [hdat]; exact O5.out.bsN) (by rw [hdat, List.length_take, List.length_drop, PL.out]; have := HN.out; omega) HN.out
      have HC := hid (show Calls Tryd.prog 118 #[.agg #[.int .u8 (k0 : Int), .int .u32 (get4 p 2 : Int), .int .u32 (get4 p 6 : Int), .int .u32 (get4 p 10 : Int), .slice a9 n c49]] w5 (RetB w5.heap.size w5 (encB (ofB p))) from by rw [← K0.out]; exact hC)
      have HEL := hid (encB_length (x := ofB p) (by rw [hdat, List.length_take]; have := HN.out; omega))
      clear hC hdat
      go_upto_if 55 with (first | (refine wpList_load_blk (o := ⟨some 51, _, _, _, _, _⟩) 167 (.tmp 5) rfl rfl g5 [.int .u8 (k0 : Int), .int .u32 (get4 p 2 : Int), .int .u32 (get4 p 6 : Int), .int .u32 (get4 p 10 : Int), .slice a9 n c49] 167 rfl GB.out ⟨_, Tryd.underlying167, rfl⟩ (by kernel_rfl) ?_) | (go_at_call 118; refine HC.out.mono ?_; rintro e w6 ⟨v6, rfl, ho6, hb6⟩; obtain ⟨a6, n6, c6, e6, hl6, hs6, _⟩ := ob_n ho6; subst e6; have S6 := hid hs6; have L6 := hid hl6; have B6 := hid hb6; clear ho6 hb6 hs6 hl6) | (go_at_call 33; refine (same_n _ _ _ 128 c6 c9 (encB (ofB p)) p _ S6.out (PB.out.below B6.out) L6.out PL.out).mono ?_; rintro e w' ⟨rfl, rfl⟩; rw [HFB.out]))
      replace BB := hid (BB.out.trans (B6.out.mono BB.out.size))
      replace ZB := hid (ZB.out.below B6.out)
      replace GB := hid (GB.out.below B6.out)
      replace O5 := hid (O5.out.below B6.out)
      clear S6 B6 HC
      cases fb
      case' false =>
        have HG := hid (show readB p = (blkZ, 4) from by rw [readB_ref PL.out]; unfold refreadB; rw [if_neg HNZ.out, if_neg (by simp [HSM.out]), if_neg (by rw [K0.out, NB.out]; have := HN.out; have := HK.out; omega), if_pos (by have := HFB.out; simpa using this)])
        go_upto_region 11 with fail
        go_step
        repeat (first | (refine wpList_store_blk (o := ⟨none, _, 0, _, _, _⟩) 167 (.tmp 2) (.tmp 56) rfl rfl z [.int .u8 0, .int .u32 0, .int .u32 0, .int .u32 0, .slice none 0 0] [.int .u8 0, .int .u32 0, .int .u32 0, .int .u32 0, .slice none 0 0] 167 rfl rfl ZB.out rfl (by kernel_rfl) (by simp [Value.oneCell']) ?_; intro wE hZE hCE) | go_step)
        refine bodyPost_ret (v := .tuple #[.agg [.int .u8 0, .int .u32 0, .int .u32 0, .int .u32 0, .slice none 0 0].toArray, .int .i64 4]) (results_blk2 (fn := Tryd.f109) (p := 2) (q := 3) (ty := 167) rfl _ z [.int .u8 0, .int .u32 0, .int .u32 0, .int .u32 0, .slice none 0 0] 167 (.int .i64 4) rfl rfl hZE ⟨_, Tryd.underlying167, rfl⟩ (by kernel_rfl)) rfl ?_
        exact bget_no (BB.out.trans (hCE.below BB.out.size (by simp; exact Nat.le_of_eq Hz.out))) HG.out
      have HG := hid (show readB p = (ofB p, 0) from by rw [readB_ref PL.out]; unfold refreadB; rw [if_neg HNZ.out, if_neg (by simp [HSM.out]), if_neg (by rw [K0.out, NB.out]; have := HN.out; have := HK.out; omega), if_neg (by have := HFB.out; simpa using this)])
      repeat (first | (refine wpList_load_blk (o := ⟨some 57, _, _, _, _, _⟩) 167 (.tmp 5) rfl rfl g5 [.int .u8 (k0 : Int), .int .u32 (get4 p 2 : Int), .int .u32 (get4 p 6 : Int), .int .u32 (get4 p 10 : Int), .slice a9 n c49] 167 rfl GB.out ⟨_, Tryd.underlying167, rfl⟩ (by kernel_rfl) ?_) | (refine wpList_store_blk (o := ⟨none, _, 0, _, _, _⟩) 167 (.tmp 2) (.tmp 57) rfl rfl z [.int .u8 0, .int .u32 0, .int .u32 0, .int .u32 0, .slice none 0 0] [.int .u8 (k0 : Int), .int .u32 (get4 p 2 : Int), .int .u32 (get4 p 6 : Int), .int .u32 (get4 p 10 : Int), .slice a9 n c49] 167 rfl rfl ZB.out rfl (by kernel_rfl) (by simp [Value.oneCell']) ?_; intro wE hZE hCE) | go_step)
      refine bodyPost_ret (v := .tuple #[.agg [.int .u8 (k0 : Int), .int .u32 (get4 p 2 : Int), .int .u32 (get4 p 6 : Int), .int .u32 (get4 p 10 : Int), .slice a9 n c49].toArray, .int .i64 0]) (results_blk2 (fn := Tryd.f109) (p := 2) (q := 3) (ty := 167) rfl _ z [.int .u8 (k0 : Int), .int .u32 (get4 p 2 : Int), .int .u32 (get4 p 6 : Int), .int .u32 (get4 p 10 : Int), .slice a9 n c49] 167 (.int .i64 0) rfl rfl hZE ⟨_, Tryd.underlying167, rfl⟩ (by kernel_rfl)) rfl ?_
      rw [HG.out]
      refine ⟨a9, n, c49, ?_, ?_, ?_, BB.out.trans (hCE.below BB.out.size (by simp; exact Nat.le_of_eq Hz.out))⟩
      · rw [← K0.out]; rfl
      · show ((p.drop 14).take (nB p)).length = n
        rw [NB.out, List.length_take, List.length_drop, PL.out]; have := HN.out; omega
      · show OB wE _ 5 _ ((p.drop 14).take (nB p))
        rw [NB.out]
        exact (O5.out.chg hCE (fun q hq hm => by have := OB.ownBlock O5.out q hq; simp at hm; omega)).base (by rw [Hz.out]; exact Nat.le_succ z)
end Go.Proofs.YtoapibbbooongaaDoor
