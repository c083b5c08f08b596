/- SlabTears: of one write, torn anywhere, each byte is the old one or the new one. -/
import Derived.Test.YtoegnlabneafkaaSlabG
import Derived.Test.YtoegnlabneafkaaZeros
import Derived.Deep.QuietTactic
import Derived.BigQuiet
namespace Go.Proofs.Ytoegnlabneafkaa
open Go.RowKit Go.Quad _root_.Quad.Slab

theorem aw_one : (newL 1).steps < 1000000 ∧ (newL 1).way.length < 1000000 := by decide +kernel

theorem min128 (n : Nat) : (if 128 < (n : Int) then 128 else (n : Int)) = ((min n 128 : Nat) : Int) := by split <;> omega

set_option maxRecDepth 20000 in
set_option maxHeartbeats 1000000 in
theorem slabTears_walk (a0 : Option Addr) (c0 : Nat) (l0 : List UInt8) (a1 : Option Addr) (c1 : Nat) (l1 : List UInt8) (fate : Nat) (cut : Int) (w : World) (h0 : BS w a0 c0 l0) (h1 : BS w a1 c1 l1) (hf : fate < 256) (hcut : -9223372036854775808 ≤ cut ∧ cut ≤ 9223372036854775807) :
    Calls Try.prog 3 #[.slice a0 l0.length c0, .slice a1 l1.length c1, .int .u8 (fate : Int), .int .i64 cut] w fun e w' => e = .returned (.bool true) ∧ Below w.heap.size w w' := by
  have m0 := h0.max'
  have m1 := h1.max'
  have f0 := h0.fit'
  have f1 := h1.fit'
  have H0 := hid h0
  have H1 := hid h1
  have M0 := hid (min128 l0.length)
  have M1 := hid (min128 l1.length)
  obtain ⟨k0, hk0⟩ : ∃ k, min l0.length 128 = k := ⟨_, rfl⟩
  obtain ⟨k1, hk1⟩ : ∃ k, min l1.length 128 = k := ⟨_, rfl⟩
  rw [hk0] at M0
  rw [hk1] at M1
  have K0 := hid hk0
  have K1 := hid hk1
  have b0 : (k0 : Int) ≤ 128 ∧ k0 ≤ c0 := by omega
  have b1 : (k1 : Int) ≤ 128 ∧ k1 ≤ c1 := by omega
  clear h0 h1 hk0 hk1
  go_enter Try.func3, Try.ntmps3
  go_wp2_with fail
  refine (awake_calls w).mono ?_
  rintro e w1 ⟨rfl, hb⟩
  have B1 := hid hb
  clear hb
  go_upto_region 3 with fail
  have m0' := M0.out
  have m1' := M1.out
  go_quiet (fail)
  clear m0' m1'
  have L0 := hid (show (l0.take k0).length = k0 from by have := K0.out; rw [List.length_take]; omega)
  have L1 := hid (show (l1.take k1).length = k1 from by have := K1.out; rw [List.length_take]; omega)
  have V0 := hid (H0.out.take k0)
  have V1 := hid (H1.out.take k1)
  generalize l0.take k0 = p0 at V0 L0
  generalize l1.take k1 = p1 at V1 L1
  have S0 := hid ((below_drewN (Below.refl w1.heap.size w1) nq))
  go_wp2_with fail
  refine (sa_new _ 1 (by decide)).mono ?_
  rintro e w2 ⟨g, rfl, h2⟩
  obtain ⟨wn, hwn⟩ : ∃ wn, w1.drewN nq = wn := ⟨_, rfl⟩
  rw [hwn] at h2 S0
  have Bn := hid (B1.out.trans (S0.out.mono B1.out.size))
  have S2 := hid h2
  clear h2 hwn
  have W2 := hid (Bn.out.trans (S2.out.2.mono Bn.out.size))
  go_wp2_with (at_builtin; go_must (refine wpList_append_lit0 (.tmp 36) (.tmp 37) _ rfl rfl 5 info_u8 under_bytes rfl (V0.out.below W2.out) k0 L0.out rfl (by rw [L0.out]; omega) ?_; intro v3 w3 ho hb; obtain ⟨a3, cp3, e3, hbs, hof⟩ := ho.bs; subst e3; have A3 := hid hbs; have O3 := hid hof; have B3 := hid hb; clear hbs hof hb ho))
  have S3 := hid (S2.out.below B3.out)
  refine (sa_write wn _ g (newL 1) 0 a3 cp3 p0 S3.out (by omega) A3.out aw_one.1 aw_one.2 (S2.out.off_new B3.out (fun x hx => (O3.out x hx).2.2.1))).mono ?_
  rintro e w4 ⟨he, h4⟩
  rw [te1 p0 (by rw [L0.out]; omega)] at he h4
  subst he
  have S4 := hid h4
  clear h4
  go_wp2_with fail
  refine (sa_flush wn _ g _ S4.out (by simp)).mono ?_
  rintro e w5 ⟨he, h5⟩
  rw [te2] at he h5
  subst he
  have S5 := hid h5
  clear h5
  have W5 := hid (Bn.out.trans (S5.out.2.mono Bn.out.size))
  go_wp2_with (at_builtin; go_must (refine wpList_append_lit0 (.tmp 49) (.tmp 50) _ rfl rfl 5 info_u8 under_bytes rfl (V1.out.below W5.out) k1 L1.out rfl (by rw [L1.out]; omega) ?_; intro v6 w6 ho hb; obtain ⟨a6, cp6, e6, hbs, hof⟩ := ho.bs; subst e6; have A6 := hid hbs; have O6 := hid hof; have B6 := hid hb; clear hbs hof hb ho))
  have S6 := hid (S5.out.below B6.out)
  refine (sa_write wn _ g _ 0 a6 cp6 p1 S6.out (by omega) A6.out (by simp) (by simp) (S5.out.off_new B6.out (fun x hx => (O6.out x hx).2.2.1))).mono ?_
  rintro e w7 ⟨he, h7⟩
  rw [te3 _ p1 _ (by rw [L1.out]; omega)] at he h7
  subst he
  have S7 := hid h7
  clear h7
  go_wp2_with fail
  have hlit := lit_bs w7 5 [UInt8.ofNat fate] (by simp [maxLen])
  rw [List.map_singleton, u8v_of' fate hf] at hlit
  refine (sa_crash wn _ g _ (some ⟨w7.heap.size, 0, none⟩) 1 [UInt8.ofNat fate] cut (S7.out.below (below_alloc w7 _)) hlit (S7.out.off_new (below_alloc w7 _) (by rintro x ⟨⟩; exact Nat.le_refl _)) hcut).mono ?_
  rintro e w8 ⟨rfl, h8⟩
  rw [te4, show (UInt8.ofNat fate).toNat = fate from by simp; omega] at h8
  have S8 := hid h8
  clear h8 hlit
  go_wp2_with fail
  refine (sa_read wn _ g _ 0 S8.out (by omega)).mono ?_
  rintro e w9 ⟨v, he, hv, hb, h9⟩
  rw [te5] at he hv
  subst he
  obtain ⟨ap, cpp, rfl, hbs, hop⟩ := hv.bs
  have PV := hid hbs
  have S9 := hid h9
  have W9 := hid (Bn.out.trans (S9.out.2.mono Bn.out.size))
  clear hbs hop hb hv h9
  have Lp0 := hid (pad_length (t := p0) (by rw [L0.out]; omega))
  have Lp1 := hid (pad_length (t := p1) (by rw [L1.out]; omega))
  obtain ⟨T, hT⟩ : ∃ T, torn (fate % 4) (cutOf cut) (pad p0) (pad p1) = T := ⟨_, rfl⟩
  obtain ⟨c, hc⟩ : ∃ c, cutOf cut = c := ⟨_, rfl⟩
  have hmm : min (max cut 0) 128 = (c : Int) := by rw [← hc]; unfold cutOf; omega
  have hc128 : (c : Int) ≤ 128 := by omega
  have Lt := hid (show T.length = 128 from by rw [← hT]; exact torn_length Lp0.out Lp1.out (cutOf_le _))
  rw [hT] at PV
  rw [hT]
  rw [hc] at hT
  have HT := hid hT
  have Hmm := hid hmm
  clear hT hc hmm
  dsimp only
  have e0 : p0 ++ List.replicate (128 - k0) 0 = pad p0 := by unfold pad; rw [L0.out]
  have e1 : p1 ++ List.replicate (128 - k1) 0 = pad p1 := by unfold pad; rw [L1.out]
  have E0 := hid e0
  have E1 := hid e1
  clear e0 e1
  go_upto_region 10 with (first
    | (at_builtin; refine wpList_append_lit0 (.tmp 68) (.tmp 69) _ rfl rfl 5 info_u8 under_bytes rfl (V0.out.below W9.out) k0 L0.out rfl (by rw [L0.out]; omega) ?_; intro v10 w10 ho10 hb10; have O10 := hid ho10; have B10 := hid hb10; clear ho10 hb10)
    | (at_builtin; refine wpList_append_zeros_b (.tmp 70) (.tmp 73) 22 3 rfl rfl w9.heap.size 5 .i64 info_u8 under_bytes (by kernel_rfl) _ p0 O10.out rfl (128 - k0) (show _ = Value.int .i64 (((128 - k0 : Nat)) : Int) from congrArg (Value.int .i64) (by omega)) (by rw [L0.out]; omega) B10.out.size ?_; intro v11 w11 ho11 hg11 hx11; have B11 := hid (B10.out.trans (grownBy_below hg11 B10.out.size O10.out.ownBlock)); rw [E0.out] at ho11; obtain ⟨aA, cA, e11, hbs, hof⟩ := ho11.bs; subst e11; have PA := hid hbs; clear hbs hof ho11 hg11 hx11)
    | (at_builtin; refine wpList_append_lit0 (.tmp 75) (.tmp 76) _ rfl rfl 5 info_u8 under_bytes rfl (V1.out.below (W9.out.trans (B11.out.mono W9.out.size))) k1 L1.out rfl (by rw [L1.out]; omega) ?_; intro v12 w12 ho12 hb12; have O12 := hid ho12; have B12 := hid hb12; clear ho12 hb12)
    | (at_builtin; refine wpList_append_zeros_b (.tmp 77) (.tmp 80) 22 3 rfl rfl w11.heap.size 5 .i64 info_u8 under_bytes (by kernel_rfl) _ p1 O12.out rfl (128 - k1) (show _ = Value.int .i64 (((128 - k1 : Nat)) : Int) from congrArg (Value.int .i64) (by omega)) (by rw [L1.out]; omega) B12.out.size ?_; intro v13 w13 ho13 hg13 hx13; have B13 := hid (B12.out.trans (grownBy_below hg13 B12.out.size O12.out.ownBlock)); rw [E1.out] at ho13; obtain ⟨aB, cB, e13, hbs, hof⟩ := ho13.bs; subst e13; have PB := hid hbs; clear hbs hof ho13 hg13 hx13))
  rw [show (if 128 < if cut < 0 then 0 else cut then 128 else if cut < 0 then 0 else cut) = (c : Int) from by have := Hmm.out; split <;> split <;> omega]
  generalize (if cut < 0 then 0 else cut) = z0
  have PVf := hid (PV.out.below (B11.out.trans (B13.out.mono B11.out.size)))
  have PAf := hid (PA.out.below B13.out)
  have PBf := hid PB.out
  have Wf := hid (W9.out.trans (B11.out.trans (B13.out.mono B11.out.size) |>.mono W9.out.size))
  clear PV PA PB
  generalize w13 = wf at PVf PAf PBf Wf ⊢
  have hq : fate % 4 = 0 ∨ fate % 4 = 1 ∨ fate % 4 = 2 ∨ fate % 4 = 3 := by omega
  have hf' : (fate : Int) ≤ 255 := by omega
  rcases hq with hq | hq | hq | hq
  · have hq' : (fate : Int) % 4 = 0 := by omega
    have Hfin := hid (show T = pad p0 from by rw [← HT.out, hq]; unfold torn; simp)
    clear hq
    go_wp2_with fail
    refine (same_calls _ _ _ _ _ _ _ PVf.out PAf.out).mono ?_
    rintro e w' ⟨rfl, rfl⟩
    go_wp2_with fail
    go_ret
    exact ⟨by rw [Hfin.out]; simp, Wf.out⟩
  · have hq' : (fate : Int) % 4 = 1 := by omega
    have Hfin := hid (show T = pad p1 from by rw [← HT.out, hq]; unfold torn; simp)
    clear hq
    go_wp2_with fail
    refine (same_calls _ _ _ _ _ _ _ PVf.out PBf.out).mono ?_
    rintro e w' ⟨rfl, rfl⟩
    go_wp2_with fail
    go_ret
    exact ⟨by rw [Hfin.out]; simp, Wf.out⟩
  · have hq' : (fate : Int) % 4 = 2 := by omega
    have Hfin := hid (show T = (pad p1).take c ++ (pad p0).drop c from by rw [← HT.out, hq]; unfold torn; simp)
    clear hq
    go_upto_region 16 with fail
    refine wp_region_new 12 9 [1, 5] (fun i v w' => match i with
      | 0 => v = .slice ap T.length cpp
      | 1 => ∃ b, v = .slice (some ⟨b, 0, none⟩) 0 0 ∧ Blk w' b [] 5 ∧ wf.heap.size ≤ b
      | 2 => v = .slice aB (pad p1).length cB
      | 3 | 7 => v = .int .i64 (c : Int)
      | 4 => ∃ a' c', v = .slice a' c c' ∧ BS wf a' c' ((pad p1).take c)
      | 5 => OB w' wf.heap.size 5 v ((pad p1).take c)
      | 6 => v = .slice aA (pad p0).length cA
      | 8 => ∃ a' c', v = .slice a' (128 - c) c' ∧ BS wf a' c' ((pad p0).drop c)
      | 9 => OB w' wf.heap.size 5 v ((pad p1).take c ++ (pad p0).drop c)
      | 10 => v = .bool (T == (pad p1).take c ++ (pad p0).drop c)
      | _ => True) (by kernel_rfl) (by kernel_rfl) (by kernel_rfl) (by kernel_rfl) ?_ ?_ ?_ ?_
    · intro j v wx wy hR hb
      match j, hR with
      | 0, hR | 2, hR | 3, hR | 7, hR | 4, hR | 6, hR | 8, hR | 10, hR => exact hR
      | 1, hR => exact (by obtain ⟨b, e, h1, h2⟩ := hR; exact ⟨b, e, h1.below hb, h2⟩)
      | 5, hR => exact OB.below hR hb
      | 9, hR => exact OB.below hR hb
      | _ + 11, _ => trivial
    · intro j v wx wy hne hcon hR hb
      match j, hR with
      | 0, hR | 2, hR | 3, hR | 7, hR | 4, hR | 6, hR | 8, hR | 10, hR => exact hR
      | 1, _ => exact absurd hcon (by decide)
      | 5, _ => exact absurd hcon (by decide)
      | 9, _ => exact (hne rfl).elim
      | _ + 11, _ => trivial
    · refine ⟨?_, ?_, ?_, ?_, ?_, ?_, ?_, ?_, ?_, ?_, ?_, trivial⟩
      all_goals intro ρ wx hE hc hg hf
      · intro h0; exact opOk_move _ rfl ⟨Below.refl _ _, h0⟩
      · exact opOk_lit0 _ 5 rfl under_bytes info_u8 fun h => ⟨below_alloc wx _, wx.heap.size, rfl, h, hE.1⟩
      · intro h0; exact opOk_move _ rfl ⟨Below.refl _ _, h0⟩
      · intro h0; exact opOk_move _ rfl ⟨Below.refl _ _, h0⟩
      · intro (h0 : ρ (.tmp 101) = .slice aB (pad p1).length cB) (h1 : ρ (.tmp 102) = .int .i64 (c : Int))
        refine opOk_bytes_cut_at _ _ _ _ rfl 5 under_bytes info_u8 h0 PBf.out 0 c (.inr ⟨rfl, rfl⟩) (.inl (by rw [Option.map_some, h1])) (Nat.zero_le _) (by have := PBf.out.fit'; rw [Lp1.out] at this; omega) fun a' hc' => ⟨Below.refl _ _, a', _, rfl, ?_⟩
        simpa using hc'
      · intro ⟨b, h0, hB, hb⟩ ⟨a', c', h1, hs⟩
        refine opOk_append_lit0 _ _ _ 5 rfl info_u8 under_bytes b h0 hB (hs.below ((below_drew wf).trans (hE.2 (Nat.le_refl _)))) (by rw [h1]; simp [Lp1.out]; omega) (by simp [Lp1.out]; omega) wf.heap.size hb fun v' w' h2 h3 => ⟨h3, h2⟩
      · intro h0; exact opOk_move _ rfl ⟨Below.refl _ _, h0⟩
      · intro h0; exact opOk_move _ rfl ⟨Below.refl _ _, h0⟩
      · intro (h0 : ρ (.tmp 105) = .slice aA (pad p0).length cA) (h1 : ρ (.tmp 106) = .int .i64 (c : Int))
        refine opOk_bytes_cut_at _ _ _ _ rfl 5 under_bytes info_u8 h0 PAf.out c 128 (.inl (by rw [Option.map_some, h1])) (.inr ⟨rfl, Lp0.out.symm⟩) (by omega) (by have := PAf.out.fit'; rw [Lp0.out] at this; omega) fun a' hc' => ⟨Below.refl _ _, a', _, rfl, ?_⟩
        rwa [List.take_of_length_le (by rw [List.length_drop, Lp0.out]; omega)] at hc'
      · intro h0 ⟨a', c', h1, hs⟩
        have hE : Below wf.drew.heap.size wf.drew wx := hE
        refine opOk_append_b _ _ _ rfl wf.heap.size 5 info_u8 under_bytes _ _ h0 rfl (hs.below ((below_drew wf).trans hE)) (n := 128 - c) (by simp [Lp0.out]) h1 (by simp [Lp1.out]; omega) hE.size fun v' w' h2 h3 => ⟨⟨h3.size, fun _ => h3⟩, h2⟩
      · intro (h0 : ρ (.tmp 99) = .slice ap T.length cpp) h1
        have hE : Since wf.heap.size wf.drew wx := hE
        obtain ⟨a', c', e, hs, _⟩ := OB.bs h1
        refine opOk_call (f := 14) (args := #[.slice ap T.length cpp, .slice a' ((pad p1).take c ++ (pad p0).drop c).length c']) ?_ ?_
        · go_simp
        · refine (same_calls _ _ _ _ _ _ _ (PVf.out.below ((below_drew wf).trans (hE.2 (Nat.le_refl _)))) hs).mono ?_
          rintro e w2 ⟨rfl, rfl⟩
          exact ⟨_, rfl, Below.refl _ _, rfl⟩
    · intro wz hE
      rintro _ rfl _ _ _ rfl _ rfl _ _ _ _ _ rfl _ rfl _ _ v9 h9 _ rfl
      simp only [PutLast, Act.put, List.setIfInBounds_toArray, List.set_cons_succ, List.set_cons_zero]
      refine opOk_assignV (.tmp 109) (.bool true) rfl (show Value.bool (T == (pad p1).take c ++ (pad p0).drop c) = .bool true from by rw [Hfin.out, beq_self_eq_true]) ?_
      have We := hid (Wf.out.trans (hE.mono Wf.out.size))
      clear h9 hE
      go_wp2_with fail
      go_ret
      exact ⟨rfl, We.out⟩
  · have hq' : (fate : Int) % 4 = 3 := by omega
    have Hfin := hid (show T = (pad p0).take c ++ (pad p1).drop c from by rw [← HT.out, hq]; unfold torn; simp)
    clear hq
    go_upto_region 17 with fail
    refine wp_region_new 12 9 [1, 5] (fun i v w' => match i with
      | 0 => v = .slice ap T.length cpp
      | 1 => ∃ b, v = .slice (some ⟨b, 0, none⟩) 0 0 ∧ Blk w' b [] 5 ∧ wf.heap.size ≤ b
      | 2 => v = .slice aA (pad p0).length cA
      | 3 | 7 => v = .int .i64 (c : Int)
      | 4 => ∃ a' c', v = .slice a' c c' ∧ BS wf a' c' ((pad p0).take c)
      | 5 => OB w' wf.heap.size 5 v ((pad p0).take c)
      | 6 => v = .slice aB (pad p1).length cB
      | 8 => ∃ a' c', v = .slice a' (128 - c) c' ∧ BS wf a' c' ((pad p1).drop c)
      | 9 => OB w' wf.heap.size 5 v ((pad p0).take c ++ (pad p1).drop c)
      | 10 => v = .bool (T == (pad p0).take c ++ (pad p1).drop c)
      | _ => True) (by kernel_rfl) (by kernel_rfl) (by kernel_rfl) (by kernel_rfl) ?_ ?_ ?_ ?_
    · intro j v wx wy hR hb
      match j, hR with
      | 0, hR | 2, hR | 3, hR | 7, hR | 4, hR | 6, hR | 8, hR | 10, hR => exact hR
      | 1, hR => exact (by obtain ⟨b, e, h1, h2⟩ := hR; exact ⟨b, e, h1.below hb, h2⟩)
      | 5, hR => exact OB.below hR hb
      | 9, hR => exact OB.below hR hb
      | _ + 11, _ => trivial
    · intro j v wx wy hne hcon hR hb
      match j, hR with
      | 0, hR | 2, hR | 3, hR | 7, hR | 4, hR | 6, hR | 8, hR | 10, hR => exact hR
      | 1, _ => exact absurd hcon (by decide)
      | 5, _ => exact absurd hcon (by decide)
      | 9, _ => exact (hne rfl).elim
      | _ + 11, _ => trivial
    · refine ⟨?_, ?_, ?_, ?_, ?_, ?_, ?_, ?_, ?_, ?_, ?_, trivial⟩
      all_goals intro ρ wx hE hc hg hf
      · intro h0; exact opOk_move _ rfl ⟨Below.refl _ _, h0⟩
      · exact opOk_lit0 _ 5 rfl under_bytes info_u8 fun h => ⟨below_alloc wx _, wx.heap.size, rfl, h, hE.1⟩
      · intro h0; exact opOk_move _ rfl ⟨Below.refl _ _, h0⟩
      · intro h0; exact opOk_move _ rfl ⟨Below.refl _ _, h0⟩
      · intro (h0 : ρ (.tmp 112) = .slice aA (pad p0).length cA) (h1 : ρ (.tmp 113) = .int .i64 (c : Int))
        refine opOk_bytes_cut_at _ _ _ _ rfl 5 under_bytes info_u8 h0 PAf.out 0 c (.inr ⟨rfl, rfl⟩) (.inl (by rw [Option.map_some, h1])) (Nat.zero_le _) (by have := PAf.out.fit'; rw [Lp0.out] at this; omega) fun a' hc' => ⟨Below.refl _ _, a', _, rfl, ?_⟩
        simpa using hc'
      · intro ⟨b, h0, hB, hb⟩ ⟨a', c', h1, hs⟩
        refine opOk_append_lit0 _ _ _ 5 rfl info_u8 under_bytes b h0 hB (hs.below ((below_drew wf).trans (hE.2 (Nat.le_refl _)))) (by rw [h1]; simp [Lp0.out]; omega) (by simp [Lp0.out]; omega) wf.heap.size hb fun v' w' h2 h3 => ⟨h3, h2⟩
      · intro h0; exact opOk_move _ rfl ⟨Below.refl _ _, h0⟩
      · intro h0; exact opOk_move _ rfl ⟨Below.refl _ _, h0⟩
      · intro (h0 : ρ (.tmp 116) = .slice aB (pad p1).length cB) (h1 : ρ (.tmp 117) = .int .i64 (c : Int))
        refine opOk_bytes_cut_at _ _ _ _ rfl 5 under_bytes info_u8 h0 PBf.out c 128 (.inl (by rw [Option.map_some, h1])) (.inr ⟨rfl, Lp1.out.symm⟩) (by omega) (by have := PBf.out.fit'; rw [Lp1.out] at this; omega) fun a' hc' => ⟨Below.refl _ _, a', _, rfl, ?_⟩
        rwa [List.take_of_length_le (by rw [List.length_drop, Lp1.out]; omega)] at hc'
      · intro h0 ⟨a', c', h1, hs⟩
        have hE : Below wf.drew.heap.size wf.drew wx := hE
        refine opOk_append_b _ _ _ rfl wf.heap.size 5 info_u8 under_bytes _ _ h0 rfl (hs.below ((below_drew wf).trans hE)) (n := 128 - c) (by simp [Lp1.out]) h1 (by simp [Lp0.out]; omega) hE.size fun v' w' h2 h3 => ⟨⟨h3.size, fun _ => h3⟩, h2⟩
      · intro (h0 : ρ (.tmp 110) = .slice ap T.length cpp) h1
        have hE : Since wf.heap.size wf.drew wx := hE
        obtain ⟨a', c', e, hs, _⟩ := OB.bs h1
        refine opOk_call (f := 14) (args := #[.slice ap T.length cpp, .slice a' ((pad p0).take c ++ (pad p1).drop c).length c']) ?_ ?_
        · go_simp
        · refine (same_calls _ _ _ _ _ _ _ (PVf.out.below ((below_drew wf).trans (hE.2 (Nat.le_refl _)))) hs).mono ?_
          rintro e w2 ⟨rfl, rfl⟩
          exact ⟨_, rfl, Below.refl _ _, rfl⟩
    · intro wz hE
      rintro _ rfl _ _ _ rfl _ rfl _ _ _ _ _ rfl _ rfl _ _ v9 h9 _ rfl
      simp only [PutLast, Act.put, List.setIfInBounds_toArray, List.set_cons_succ, List.set_cons_zero]
      refine opOk_assignV (.tmp 120) (.bool true) rfl (show Value.bool (T == (pad p0).take c ++ (pad p1).drop c) = .bool true from by rw [Hfin.out, beq_self_eq_true]) ?_
      have We := hid (Wf.out.trans (hE.mono Wf.out.size))
      clear h9 hE
      go_wp2_with fail
      go_ret
      exact ⟨rfl, We.out⟩

theorem slabTears_row (a0 : Option Addr) (c0 : Nat) (l0 : List UInt8) (a1 : Option Addr) (c1 : Nat) (l1 : List UInt8) (fate cut : Int) (w : World) (h0 : BS w a0 c0 l0) (h1 : BS w a1 c1 l1) (hf : (Lit.int .u8 fate).wf = true) (hc : (Lit.int .i64 cut).wf = true) :
    Calls Try.prog 3 #[.slice a0 l0.length c0, .slice a1 l1.length c1, .int .u8 fate, .int .i64 cut] w fun e w' => e = .returned (.bool true) ∧ Below w.heap.size w w' := by
  have h8 := bounds_u8 hf
  have h64 := bounds_i64 hc
  obtain ⟨n, rfl⟩ : ∃ n : Nat, fate = n := ⟨fate.toNat, by omega⟩
  exact slabTears_walk a0 c0 l0 a1 c1 l1 n cut w h0 h1 (by omega) (by omega)
end Go.Proofs.Ytoegnlabneafkaa
