/- ScrollRoom: a batch that has just room is taken, one that hasn't changes nothing, and behind a snapshot there is room again. -/
import Derived.Test.YtoapibbbooongaaDoorScrX
namespace Go.Proofs.YtoapibbbooongaaDoor
open Go.RowKit Go.Quad _root_.Quad _root_.Quad.Slab _root_.Quad.Ink

theorem made_bs {w : World} {b M : Nat} {i0 : Nat} (h : w.ownsRow i0 5 1 (.slice (some ⟨b, 0, none⟩) M M) M (madeCells (Value.int .u8 0).cells (M * 1)).toList) : BS w (some ⟨b, 0, none⟩) M (List.replicate M 0) := by
  have h2 : OB w i0 5 (.slice (some ⟨b, 0, none⟩) M M) (List.replicate M 0) := by
    unfold OB
    rw [List.length_replicate, List.map_replicate]
    exact row_made w (z := .int .u8 0) rfl h
  exact h2.bsN
theorem wpList_make_g {P : Program} (w : World) {ops : Array Oper} {rest : List Oper} {o : Oper} {a : Act} {Q : Exit → Act → World → Prop}
    (hw : Region.wanted o (yielded ops a.tmps) = true) (l c : Operand) (t : TypeId) (hop : o.op = Op.makeSlice t l c)
    (base : Nat) (e : TypeId) (i : TypeInfo) (z : Value) (size : Nat) (h1 : P.underlying t = some (.slice e)) (h2 : P.info? e = some i) (h3 : i.zero = some z) (h4 : i.size = size)
    (kl kc : IntKind) (L C : Int) (n : Nat) (hl : a.eval l = .int kl L) (hc : a.eval c = .int kc C) (hL : L = (n : Int)) (hC : C = (n : Int)) (b2 : i.bytes * n ≤ 281474976710656) (b3 : n ≤ maxLen) (b4 : base ≤ w.heap.size)
    (hK : ∀ w', w'.ownsRow base e size (.slice (some ⟨w.heap.size, 0, none⟩) n n) n (madeCells z.cells (n * size)).toList → w.grownBy w' none → wpList P ops Q rest (a.put o.dst (.slice (some ⟨w.heap.size, 0, none⟩) n n)) w') :
    wpList P ops Q (o :: rest) a w := by
  unfold wpList
  rw [if_pos hw]
  left
  obtain ⟨w', hrun, r1, r2⟩ := run_make_full (P := P) w base t e i z size h1 h2 h3 h4 kl kc n b2 b3 b4
  subst hL
  subst hC
  unfold Oper.wp
  simp [execOp, hop, hl, hc, hrun, Result.andThen]
  exact hK w' r1 r2
theorem made_lt {w : World} {b M : Nat} {i0 : Nat} {z : List Value} (h : w.ownsRow i0 5 1 (.slice (some ⟨b, 0, none⟩) M M) M z) : b < w.heap.size := (blk_of_owned h).lt
structure RmSt (k i : Nat) (s : Sl) (bs : List Bat) : Prop where
  dk : Dk s k ⟨2, 1, 1, 0⟩ bs
  way : s.way = []
  len : s.done.length = 2 + 2 * k
  steps : s.steps ≤ 100 + 30 * i
  few : ((bs.map Prod.snd).drop 1).flatten.length ≤ i
theorem rm_start {k : Nat} (hk : 1 ≤ k ∧ k ≤ 12) : ∃ s s1 bs, formatS (newL (2 + 2 * k)) (k : Int) [] = (s, 0) ∧ (s.steps ≤ 50 ∧ s.way = [] ∧ s.done.length = 2 + 2 * k) ∧ openS s (k : Int) = (s1, some (scD s1 k ⟨2, 1, 1, 0⟩ bs), 0) ∧ RmSt k 0 s1 bs := by
  have p0 : partsL [[]] = 1 := partsL_one (Nat.le_trans (joinL_bound (N := 0) (by omega) _ (by simp)) (by simp))
  obtain ⟨_, s0, _, _, f0, d0, w0, l0, t0⟩ := dk_format (n := 2 + 2 * k) (size := k) (p := []) (by omega) (by omega) (by omega) (by simp) (by omega)
  obtain ⟨s1, o1, d1, w1, l1, t1⟩ := d0.scOpen (by simp) (by simp)
  exact ⟨s0, s1, _, f0, ⟨by omega, w0, l0⟩, o1, ⟨d1, w1, l1.trans l0, by omega, Nat.zero_le _⟩⟩
theorem rm_step {k i : Nat} {s : Sl} {bs : List Bat} (h : RmSt k i s bs) {t : Bytes} (ht : t.length ≤ 700) :
    (lenB bs + partsL [t] ≤ k ∧ ∃ s' bs', addS (scD s k ⟨2, 1, 1, 0⟩ bs) [t] = (scD s' k ⟨2, 1, 1, 0⟩ bs', 0) ∧ RmSt k (i + 1) s' bs' ∧ lenB bs' = lenB bs + partsL [t]) ∨
    (¬ (lenB bs + partsL [t] ≤ k) ∧ addS (scD s k ⟨2, 1, 1, 0⟩ bs) [t] = (scD s k ⟨2, 1, 1, 0⟩ bs, 8) ∧ RmSt k (i + 1) s bs) := by
  have hb := joinL_bound (N := 700) (by omega) [t] (by simp [ht])
  have hpp : partsL [t] ≤ 7 := by unfold partsL npart; simp at hb; omega
  have hst := h.steps
  have hfw := h.few
  have hln := h.len
  by_cases hf : lenB bs + partsL [t] ≤ k
  · obtain ⟨s2, a2, d2, w2, l2, t2⟩ := h.dk.scAdd (l := [t]) (by simp) (by simp; omega) hf
    refine .inl ⟨hf, s2, _, a2, ⟨d2, w2, by omega, by omega, ?_⟩, by rw [lenB_append]; rfl⟩
    obtain ⟨e, p', bs', e1⟩ := h.dk.first
    rw [e1] at hfw ⊢
    simp only [List.map_cons, List.drop_succ_cons, List.drop_zero] at hfw
    simp only [List.cons_append, List.map_cons, List.map_append, List.drop_succ_cons, List.drop_zero, List.flatten_append, List.length_append, List.map_nil, List.flatten_cons, List.flatten_nil, List.length_nil, List.length_cons]
    omega
  · have := h.dk.fit
    exact .inr ⟨hf, h.dk.scFull (by simp) (by omega), ⟨h.dk, h.way, h.len, by omega, by omega⟩⟩
theorem rm_comp {k i : Nat} {s : Sl} {bs : List Bat} (h : RmSt k i s bs) (hk : i ≤ 20) :
    ∃ s' bs', compS (scD s k ⟨2, 1, 1, 0⟩ bs) [7] = (scD s' k ⟨3, 1, 2, 1⟩ bs', 0) ∧ (Dk s' k ⟨3, 1, 2, 1⟩ bs' ∧ s'.steps ≤ 2000 ∧ s'.way = []) ∧ (lenB bs' = 1 ∧ 1 ≤ k) ∧ ((bs'.map Prod.snd).drop 1).flatten = [] ∧ ((bs'.map Prod.snd).headD []).headD [] = [7] := by
  have p0 : partsL [[7]] = 1 := partsL_one (Nat.le_trans (joinL_bound (N := 1) (by omega) _ (by simp)) (by simp))
  obtain ⟨s1, a1, d1, w1, l1, t1⟩ := h.dk.scComp (p := [7]) (by simp) (by have := h.dk.sz; omega) (by simp) (by simp)
  exact ⟨s1, _, a1, ⟨d1, by have := h.steps; omega, w1⟩, ⟨by show partsL [[7]] + 0 = 1; omega, h.dk.sz.1⟩, rfl, rfl⟩
theorem rm_wide (k : Nat) : k < partsL [List.replicate (104 * k) 0] := by
  have h1 := numL_pos (104 * k)
  have h2 : (joinL [List.replicate (104 * k) 0]).length = (numL (104 * k)).length + 104 * k := by
    rw [joinL_cons]
    unfold textL
    rw [List.length_append, List.length_append, List.length_replicate]
    rfl
  unfold partsL npart
  rw [h2]
  omega
def RmRel (w1 : World) (g q k m : Nat) (iv : Value) (wr : World) : Prop :=
  ∃ (i : Nat) (s : Sl) (bs : List Bat), iv = .int .i64 (i : Int) ∧ i ≤ m ∧ i ≤ 20 ∧ LSc w1 (fun _ => False) g q (scD s k ⟨2, 1, 1, 0⟩ bs) wr ∧ RmSt k i s bs
def RmTo (w : World) (e : Ending) (w' : World) : Prop := e = .returned (.bool true) ∧ Below w.heap.size w w'
set_option maxRecDepth 100000 in
set_option maxHeartbeats 20000000 in
theorem scrollRoom_walk (n0 : Int) (v1 : Value) (w : World) (hn0 : (Lit.int .u8 n0).wf = true) (h1 : RV Tryd.prog w 80 v1) (hq : Laid w) :
    Calls Tryd.prog 9 #[.int .u8 n0, v1] w (RmTo w) := by
  obtain ⟨ad, cp, l, rfl, hok, hcs, hlc⟩ := u16s_open h1
  have hb0 := bounds_u8 hn0
  obtain ⟨n, rfl⟩ : ∃ n : Nat, n0 = (n : Int) := ⟨n0.toNat, by omega⟩
  have HQ := hid hq
  have HOK := hid hok
  have HCS := hid hcs
  have hm : (l.length : Int) ≤ 9223372036854775807 := by have := hcs.max; unfold maxLen at this; omega
  obtain ⟨k, hk⟩ : ∃ k, 1 + n % 12 = k := ⟨_, rfl⟩
  have hk1 : 1 ≤ k ∧ k ≤ 12 := by omega
  have hkI : (1 : Int) + (n : Int) % 12 = (k : Int) := by omega
  have hnb : (n : Int) ≤ 255 := by omega
  have hkb : (k : Int) ≤ 12 := by omega
  obtain ⟨S, hS⟩ : ∃ S, 2 + 2 * k = S := ⟨_, rfl⟩
  have hSI : (2 : Int) + 2 * (k : Int) = (S : Int) := by omega
  have HK1 := hid hk1
  have HSS := hid hS
  obtain ⟨s0, s1, b1, hf0, hs0, ho1, he1⟩ := rm_start hk1
  rw [hS] at hf0 hs0
  have HF0 := hid hf0
  have HS0 := hid hs0
  have HE1 := hid he1
  clear h1 hq hn0 hok hcs hf0 hs0 he1 hb0 hlc hk hS hk1
  go_enter Tryd.func9, Tryd.ntmps9
  go_upto_region 3 with (go_at_call 28; go_must (refine (sawake_calls w HQ.out).mono ?_; rintro e w1 ⟨rfl, hb1⟩; have B1 := hid hb1; clear hb1; dsimp only))
  have L1 := hid (HQ.out.below B1.out HQ.out.1)
  go_upto_region 5 with (go_at_call 12; go_must (refine (sa_new w1 S (by have := HK1.out; have := HSS.out; omega)).mono ?_; rintro e w2 ⟨g, rfl, h1⟩; have S1 := hid (LSl.of h1); clear h1; dsimp only))
  have CFm := hid (lsl_format w1 w2 (fun _ => False) g (newL S) (k : Int) none 0 0 [] S1.out (by omega) (by simp [newL]; have := HK1.out; have := HSS.out; omega) (BS.nil _) rfl (by simp) (by omega) L1.out (by show 0 + 6000 < 1000000; omega) (by show 0 + 6000 < 1000000; omega))
  rw [HF0.out] at CFm
  dsimp only at CFm
  go_upto_region 6 with (go_at_call 38; go_must (refine CFm.out.mono ?_; rintro e w3 ⟨rfl, h2, _⟩; have S2 := hid h2; clear h2; dsimp only))
  go_upto_region 7 with (go_at_call 29; go_must (refine (lsl_open w1 w3 (fun _ => False) g s0 (k : Int) S2.out (by omega) (by have := HS0.out.2.2; have := HK1.out; have := HSS.out; omega) L1.out (by have := HS0.out.1; omega) (by rw [HS0.out.2.1]; decide) s1 _ ho1).mono ?_; rintro e w4 ⟨q, rfl, h3, _⟩; have S3 := hid h3; clear h3; dsimp only))
  have R0 := hid (show RmRel w1 g q k l.length (.int .i64 0) w4 from ⟨0, s1, b1, rfl, Nat.zero_le _, by omega, S3.out, HE1.out⟩)
  clear CFm S1 S2 S3 ho1
  go_wp2_with fail
  go_loopw [10, 11, 12, 13, 14, 15, 42] (fun _ _ _ _ _ _ iv wr => RmRel w1 g q k l.length iv wr) (fun _ _ _ _ _ _ iv _ => l.length - (intOf iv).toNat)
  case atStart => exact R0.out
  case round =>
    clear R0
    obtain ⟨i, s, bs, rfl, hil, hi20, hls, hst⟩ := hrel
    have SC := hid hls
    have ST := hid hst
    have bwr := hid (B1.out.trans (hls.1.mono B1.out.size))
    clear hls hst
    by_cases hlt : i < l.length
    case neg =>
      have hlt' : ¬ ((i : Int) < (l.length : Int)) := by omega
      obtain ⟨s5, bs5, hc5, hd5, hl5, hr5, hs5⟩ := rm_comp ST.out (by omega)
      have HD5 := hid hd5
      have HL5 := hid hl5
      have HR5 := hid hr5
      have HS5 := hid hs5
      have CC := hid (show Calls Tryd.prog 42 #[.pointer (some ⟨q, 0, none⟩), .slice (some ⟨wr.heap.size, 0, none⟩) 1 1] (wr.alloc (.cells #[.int .u8 7] 5)) (fun e w' => e = .returned (.int .i64 0) ∧ LSc w1 (fun _ => False) g q (scD s5 k ⟨3, 1, 2, 1⟩ bs5) w') from by
        have hb := bs_lit (w := wr) (p := [7]) rfl (by decide)
        have hla := below_alloc wr (.cells #[.int .u8 7] 5)
        have hz : (wr.alloc (.cells #[.int .u8 7] 5)).heap.size = wr.heap.size + 1 := by simp
        have hb : BS (wr.alloc (.cells #[.int .u8 7] 5)) (some ⟨wr.heap.size, 0, none⟩) 1 [7] := hb
        generalize (wr.alloc (.cells #[.int .u8 7] 5)) = W at hb hla hz ⊢
        have S5 := SC.out.more (X' := fun k => wr.heap.size ≤ k ∧ k < W.heap.size) hla (fun k h => .inr h)
        have h := lsc_comp w1 W _ g q _ _ 1 1 [7] S5 hb rfl (fun x hx => by cases hx; exact ⟨Nat.le_refl _, by show wr.heap.size < W.heap.size; omega⟩) (by omega) L1.out (by have := ST.out.steps; show s.steps + _ < _; omega) (by show s.way.length + _ < _; rw [ST.out.way]; decide)
        rw [hc5] at h
        exact h.mono fun e w' h => ⟨h.1, h.2.1.less (fun _ h => h.elim)⟩)
      obtain ⟨i0, hi0, hz0, hz1, hz2⟩ := info_parts info_u8
      have Hi := hid hi0; have Hz0 := hid hz0; have Hz1 := hid hz1; have Hz2 := hid hz2
      obtain ⟨M, hM⟩ : ∃ M, 104 * k = M := ⟨_, rfl⟩
      have hMI : (104 : Int) * (k : Int) = (M : Int) := by omega
      have hM2 : (M : Int) ≤ 1248 := by omega
      have HM := hid hM
      clear hi0 hz0 hz1 hz2 hc5 hd5 hl5 hr5 hs5 hM
      go_wp2_with (first
        | (go_at_call 42; have hx := M13.out; clear hx; go_must (refine C2.out.mono ?_; rintro e w14 ⟨rfl, h14⟩; have S14 := hid h14; have CSN := hid (lsc_snap w1 w14 _ g q _ h14); rw [show (scD s5 k ⟨3, 1, 2, 1⟩ bs5).snap = [7] from HS5.out] at CSN; clear h14; dsimp only))
        | (go_at_call 42; refine CC.out.mono ?_; rintro e w10 ⟨rfl, h10⟩; have S10 := hid h10; have CL := hid (lsc_left w1 w10 _ g q _ h10); rw [show (((scD s5 k ⟨3, 1, 2, 1⟩ bs5).size - (scD s5 k ⟨3, 1, 2, 1⟩ bs5).next : Nat) : Int) = (k : Int) - 1 from (by have h := HL5.out; show ((k - lenB bs5 : Nat) : Int) = _; omega)] at CL; clear h10; dsimp only)
        | (go_at_call 37; go_must (refine CL.out.mono ?_; rintro e w11 ⟨rfl, hb11⟩; have B11 := hid hb11; have CR := hid (lsc_recs w1 w11 _ g q _ (S10.out.below hb11)); rw [show (scD s5 k ⟨3, 1, 2, 1⟩ bs5).recs = [] from HR5.out] at CR; clear hb11; dsimp only))
        | (go_at_call 36; go_must (refine CR.out.mono ?_; rintro e w12 ⟨ts4, bv4, rfl, hm4, htx4, hb4⟩; obtain ⟨a4, n4, c4, rfl, hn4, _, _⟩ := htx4.rb.cs; obtain rfl : n4 = 0 := (by rw [← hn4]; have h := congrArg List.length hm4; rw [List.length_map] at h; exact h); have B12 := hid (B11.out.trans (hb4.mono B11.out.size)); clear hm4 htx4 hb4 hn4; dsimp only))
        | (at_make; go_must (refine wpList_make_g _ rfl (.tmp 124) (.tmp 124) _ rfl w12.heap.size 5 i0 (.int .u8 0) 1 under_bytes Hi.out Hz0.out Hz1.out .i64 .i64 _ _ M rfl rfl (by omega) (by omega) (by rw [Hz2.out]; omega) (by unfold maxLen; omega) (Nat.le_refl _) ?_; intro w13 hown hgr; have M13 := hid (show BS w13 (some ⟨w12.heap.size, 0, none⟩) M (List.replicate M 0) from made_bs hown); have B13 := hid (show Below w12.heap.size w12 w13 from grownBy_below hgr (Nat.le_refl _) (by simp)); have Z13 := hid (made_lt hown); have C2 := hid (show Calls Tryd.prog 42 #[.pointer (some ⟨q, 0, none⟩), .slice (some ⟨w12.heap.size, 0, none⟩) M M] w13 (fun e w' => e = .returned (.int .i64 8) ∧ LSc w1 (fun _ => False) g q (scD s5 k ⟨3, 1, 2, 1⟩ bs5) w') from (by have hbb := B12.out.trans (B13.out.mono B12.out.size); have S13 := S10.out.more (X' := fun j => w12.heap.size ≤ j ∧ j < w13.heap.size) hbb (fun j h => .inr ⟨Nat.le_trans B12.out.size h.1, h.2⟩); have h := lsc_comp w1 w13 _ g q _ _ M M (List.replicate M 0) S13 M13.out (by rw [List.length_replicate]) (fun x hx => by cases hx; exact ⟨Nat.le_refl _, Z13.out⟩) (by omega) L1.out (by have := HD5.out.2.1; show s5.steps + _ < _; omega) (by show s5.way.length + _ < _; rw [HD5.out.2.2]; decide); rw [HD5.out.1.scCompFull (p := List.replicate M 0) (by rw [← HM.out]; exact rm_wide k)] at h; exact h.mono fun e w' h => ⟨h.1, h.2.1.less (fun _ h => h.elim)⟩)); clear hown hgr))
        | (go_at_call 34; go_must (refine CSN.out.mono ?_; rintro e w15 ⟨v15, rfl, ho15, hb15⟩; obtain ⟨a15, c15, rfl, hbs15, _⟩ := ho15.bs; have B15 := hid hb15; have CS1 := hid (show Calls Tryd.prog 33 #[.slice a15 1 c15, .slice (some ⟨w15.heap.size, 0, none⟩) 1 1] (w15.alloc (.cells #[.int .u8 7] 5)) (fun e w' => e = .returned (.bool true) ∧ (w15.alloc (.cells #[.int .u8 7] 5)) = w') from (by have h := same_calls a15 (some ⟨w15.heap.size, 0, none⟩) c15 1 [7] [7] (w15.alloc (.cells #[.int .u8 7] 5)) (hbs15.below (below_alloc w15 _)) (bs_lit (w := w15) (p := [7]) rfl (by decide)); exact h)); clear ho15 hbs15 hb15; dsimp only))
        | (go_at_call 33; go_must (refine CS1.out.mono ?_; rintro e w16 ⟨rfl, rfl⟩; dsimp only)))
      go_ret
      have h14 := B1.out.trans (S14.out.1.mono B1.out.size)
      have h15 := h14.trans (B15.out.mono h14.size)
      exact ⟨rfl, h15.trans ((below_alloc w15 _).mono h15.size)⟩
    have hlt' : (i : Int) < (l.length : Int) := by omega
    obtain ⟨b, off, rfl, hcell⟩ := cs_row u16V_length HCS.out hlt (by decide)
    have hx := HOK.out l[i] (List.getElem_mem hlt)
    have d0 := cell_later bwr.out (hcell 0 _ rfl)
    rw [Nat.add_zero, Nat.mul_one] at d0
    obtain ⟨x, hxe⟩ : ∃ x, l[i] = x := ⟨_, rfl⟩
    rw [hxe] at d0 hx
    clear hcell hxe
    by_cases h20 : i = 20
    · have h20' : (20 : Int) ≤ (i : Int) := by omega
      clear h20
      obtain ⟨s5, bs5, hc5, hd5, hl5, hr5, hs5⟩ := rm_comp ST.out (by omega)
      have HD5 := hid hd5
      have HL5 := hid hl5
      have HR5 := hid hr5
      have HS5 := hid hs5
      have CC := hid (show Calls Tryd.prog 42 #[.pointer (some ⟨q, 0, none⟩), .slice (some ⟨wr.heap.size, 0, none⟩) 1 1] (wr.alloc (.cells #[.int .u8 7] 5)) (fun e w' => e = .returned (.int .i64 0) ∧ LSc w1 (fun _ => False) g q (scD s5 k ⟨3, 1, 2, 1⟩ bs5) w') from by
        have hb := bs_lit (w := wr) (p := [7]) rfl (by decide)
        have hla := below_alloc wr (.cells #[.int .u8 7] 5)
        have hz : (wr.alloc (.cells #[.int .u8 7] 5)).heap.size = wr.heap.size + 1 := by simp
        have hb : BS (wr.alloc (.cells #[.int .u8 7] 5)) (some ⟨wr.heap.size, 0, none⟩) 1 [7] := hb
        generalize (wr.alloc (.cells #[.int .u8 7] 5)) = W at hb hla hz ⊢
        have S5 := SC.out.more (X' := fun k => wr.heap.size ≤ k ∧ k < W.heap.size) hla (fun k h => .inr h)
        have h := lsc_comp w1 W _ g q _ _ 1 1 [7] S5 hb rfl (fun x hx => by cases hx; exact ⟨Nat.le_refl _, by show wr.heap.size < W.heap.size; omega⟩) (by omega) L1.out (by have := ST.out.steps; show s.steps + _ < _; omega) (by show s.way.length + _ < _; rw [ST.out.way]; decide)
        rw [hc5] at h
        exact h.mono fun e w' h => ⟨h.1, h.2.1.less (fun _ h => h.elim)⟩)
      obtain ⟨i0, hi0, hz0, hz1, hz2⟩ := info_parts info_u8
      have Hi := hid hi0; have Hz0 := hid hz0; have Hz1 := hid hz1; have Hz2 := hid hz2
      obtain ⟨M, hM⟩ : ∃ M, 104 * k = M := ⟨_, rfl⟩
      have hMI : (104 : Int) * (k : Int) = (M : Int) := by omega
      have hM2 : (M : Int) ≤ 1248 := by omega
      have HM := hid hM
      clear hi0 hz0 hz1 hz2 hc5 hd5 hl5 hr5 hs5 hM
      go_wp2_with (first
        | (go_at_call 42; have hx := M13.out; clear hx; go_must (refine C2.out.mono ?_; rintro e w14 ⟨rfl, h14⟩; have S14 := hid h14; have CSN := hid (lsc_snap w1 w14 _ g q _ h14); rw [show (scD s5 k ⟨3, 1, 2, 1⟩ bs5).snap = [7] from HS5.out] at CSN; clear h14; dsimp only))
        | (go_at_call 42; refine CC.out.mono ?_; rintro e w10 ⟨rfl, h10⟩; have S10 := hid h10; have CL := hid (lsc_left w1 w10 _ g q _ h10); rw [show (((scD s5 k ⟨3, 1, 2, 1⟩ bs5).size - (scD s5 k ⟨3, 1, 2, 1⟩ bs5).next : Nat) : Int) = (k : Int) - 1 from (by have h := HL5.out; show ((k - lenB bs5 : Nat) : Int) = _; omega)] at CL; clear h10; dsimp only)
        | (go_at_call 37; go_must (refine CL.out.mono ?_; rintro e w11 ⟨rfl, hb11⟩; have B11 := hid hb11; have CR := hid (lsc_recs w1 w11 _ g q _ (S10.out.below hb11)); rw [show (scD s5 k ⟨3, 1, 2, 1⟩ bs5).recs = [] from HR5.out] at CR; clear hb11; dsimp only))
        | (go_at_call 36; go_must (refine CR.out.mono ?_; rintro e w12 ⟨ts4, bv4, rfl, hm4, htx4, hb4⟩; obtain ⟨a4, n4, c4, rfl, hn4, _, _⟩ := htx4.rb.cs; obtain rfl : n4 = 0 := (by rw [← hn4]; have h := congrArg List.length hm4; rw [List.length_map] at h; exact h); have B12 := hid (B11.out.trans (hb4.mono B11.out.size)); clear hm4 htx4 hb4 hn4; dsimp only))
        | (at_make; go_must (refine wpList_make_g _ rfl (.tmp 124) (.tmp 124) _ rfl w12.heap.size 5 i0 (.int .u8 0) 1 under_bytes Hi.out Hz0.out Hz1.out .i64 .i64 _ _ M rfl rfl (by omega) (by omega) (by rw [Hz2.out]; omega) (by unfold maxLen; omega) (Nat.le_refl _) ?_; intro w13 hown hgr; have M13 := hid (show BS w13 (some ⟨w12.heap.size, 0, none⟩) M (List.replicate M 0) from made_bs hown); have B13 := hid (show Below w12.heap.size w12 w13 from grownBy_below hgr (Nat.le_refl _) (by simp)); have Z13 := hid (made_lt hown); have C2 := hid (show Calls Tryd.prog 42 #[.pointer (some ⟨q, 0, none⟩), .slice (some ⟨w12.heap.size, 0, none⟩) M M] w13 (fun e w' => e = .returned (.int .i64 8) ∧ LSc w1 (fun _ => False) g q (scD s5 k ⟨3, 1, 2, 1⟩ bs5) w') from (by have hbb := B12.out.trans (B13.out.mono B12.out.size); have S13 := S10.out.more (X' := fun j => w12.heap.size ≤ j ∧ j < w13.heap.size) hbb (fun j h => .inr ⟨Nat.le_trans B12.out.size h.1, h.2⟩); have h := lsc_comp w1 w13 _ g q _ _ M M (List.replicate M 0) S13 M13.out (by rw [List.length_replicate]) (fun x hx => by cases hx; exact ⟨Nat.le_refl _, Z13.out⟩) (by omega) L1.out (by have := HD5.out.2.1; show s5.steps + _ < _; omega) (by show s5.way.length + _ < _; rw [HD5.out.2.2]; decide); rw [HD5.out.1.scCompFull (p := List.replicate M 0) (by rw [← HM.out]; exact rm_wide k)] at h; exact h.mono fun e w' h => ⟨h.1, h.2.1.less (fun _ h => h.elim)⟩)); clear hown hgr))
        | (go_at_call 34; go_must (refine CSN.out.mono ?_; rintro e w15 ⟨v15, rfl, ho15, hb15⟩; obtain ⟨a15, c15, rfl, hbs15, _⟩ := ho15.bs; have B15 := hid hb15; have CS1 := hid (show Calls Tryd.prog 33 #[.slice a15 1 c15, .slice (some ⟨w15.heap.size, 0, none⟩) 1 1] (w15.alloc (.cells #[.int .u8 7] 5)) (fun e w' => e = .returned (.bool true) ∧ (w15.alloc (.cells #[.int .u8 7] 5)) = w') from (by have h := same_calls a15 (some ⟨w15.heap.size, 0, none⟩) c15 1 [7] [7] (w15.alloc (.cells #[.int .u8 7] 5)) (hbs15.below (below_alloc w15 _)) (bs_lit (w := w15) (p := [7]) rfl (by decide)); exact h)); clear ho15 hbs15 hb15; dsimp only))
        | (go_at_call 33; go_must (refine CS1.out.mono ?_; rintro e w16 ⟨rfl, rfl⟩; dsimp only)))
      go_ret
      have h14 := B1.out.trans (S14.out.1.mono B1.out.size)
      have h15 := h14.trans (B15.out.mono h14.size)
      exact ⟨rfl, h15.trans ((below_alloc w15 _).mono h15.size)⟩
    have h20' : ¬ ((20 : Int) ≤ (i : Int)) := by omega
    obtain ⟨K, hK⟩ : ∃ K, x % 700 = K := ⟨_, rfl⟩
    have hKI : (x : Int) % 700 = (K : Int) := by omega
    have hKb : (K : Int) ≤ 699 := by omega
    have hxb : (x : Int) ≤ 65535 := by omega
    obtain ⟨i0, hi0, hz0, hz1, hz2⟩ := info_parts info_u8
    have Hi := hid hi0; have Hz0 := hid hz0; have Hz1 := hid hz1; have Hz2 := hid hz2
    clear hi0 hz0 hz1 hz2 hK
    go_upto_region 14 with (at_make; go_must (refine wpList_make_full _ rfl (.tmp 51) (.tmp 51) _ rfl wr.heap.size 5 i0 (.int .u8 0) 1 under_bytes Hi.out Hz0.out Hz1.out .i64 .i64 _ _ K rfl rfl (by omega) (by omega) (by rw [Hz2.out]; omega) (by unfold maxLen; omega) (Nat.le_refl _) ?_; intro w3 hown hgr; have M3 := hid (show BS w3 (some ⟨wr.heap.size, 0, none⟩) K (List.replicate K 0) from made_bs hown); have B3 := hid (show Below wr.heap.size wr w3 from grownBy_below hgr (Nat.le_refl _) (by simp)); have Z3 := hid (made_lt hown); clear hown hgr))
    have BL4 := hid (show BL (w3.alloc (.cells #[.slice (some ⟨wr.heap.size, 0, none⟩) K K] 33)) (fun j => wr.heap.size ≤ j ∧ j < w3.heap.size + 1) (.slice (some ⟨w3.heap.size, 0, none⟩) 1 1) [List.replicate K 0] from by
      have hb := bl_lits (w := w3) (ts := [⟨some ⟨wr.heap.size, 0, none⟩, K, List.replicate K 0⟩]) (Q := fun j => wr.heap.size ≤ j ∧ j < w3.heap.size) (n := 1) (fun t ht => by rw [List.mem_singleton] at ht; subst ht; exact ⟨M3.out, fun x hx => by cases hx; exact ⟨Nat.le_refl _, Z3.out⟩⟩) rfl (by decide)
      rw [show ([⟨some ⟨wr.heap.size, 0, none⟩, K, List.replicate K 0⟩] : List TS).flatMap tsV = [.slice (some ⟨wr.heap.size, 0, none⟩) K K] from by rw [List.flatMap_singleton]; show [Value.slice _ (List.replicate K (0 : UInt8)).length K] = _; rw [List.length_replicate]] at hb
      have := B3.out.size
      exact hb.wider fun j hj => by omega)
    have B4 := hid (B3.out.trans ((below_alloc w3 (.cells #[.slice (some ⟨wr.heap.size, 0, none⟩) K K] 33)).mono B3.out.size))
    obtain ⟨z, hz⟩ : ∃ z, w3.heap.size = z := ⟨_, rfl⟩
    have SC4 := hid (SC.out.more (X' := fun j => wr.heap.size ≤ j ∧ j < w3.heap.size + 1) B4.out (fun j h => .inr ⟨h.1, by simpa using h.2⟩))
    rw [hz] at BL4 SC4 ⊢
    generalize (w3.alloc (.cells #[.slice (some ⟨wr.heap.size, 0, none⟩) K K] 33)) = w4 at BL4 SC4 B4 ⊢
    clear hz
    obtain ⟨R, hR⟩ : ∃ R, k - lenB bs = R := ⟨_, rfl⟩
    have HR := hid hR
    obtain ⟨H, hH⟩ : ∃ H, ((bs.map Prod.snd).drop 1).flatten.length = H := ⟨_, rfl⟩
    have HH := hid hH
    have hRb : (R : Int) ≤ 12 := by omega
    have hHb : (H : Int) ≤ 20 := by have := ST.out.few; omega
    have CL := hid (lsc_left w1 w4 _ g q _ SC4.out)
    rw [show (((scD s k ⟨2, 1, 1, 0⟩ bs).size - (scD s k ⟨2, 1, 1, 0⟩ bs).next : Nat) : Int) = (R : Int) from by rw [← hR]; rfl] at CL
    clear hR hH
    go_upto_region 15 with (first
      | (go_at_call 37; go_must (refine CL.out.mono ?_; rintro e w5 ⟨rfl, hb5⟩; have B5 := hid hb5; have CR := hid (lsc_recs w1 w5 _ g q _ (SC4.out.below hb5)); clear hb5; dsimp only))
      | (go_at_call 36; go_must (refine CR.out.mono ?_; rintro e w6 ⟨ts4, bv4, rfl, hm4, htx4, hb4⟩; obtain ⟨a4, n4, c4, rfl, hn4, _, _⟩ := htx4.rb.cs; obtain rfl : n4 = H := (by rw [← hn4, ← HH.out]; have h := congrArg List.length hm4; rw [List.length_map] at h; exact h); have B6 := hid (B5.out.trans (hb4.mono B5.out.size)); clear hm4 htx4 hb4 hn4; dsimp only)))
    have S6 := hid (SC4.out.below B6.out)
    have BL6 := hid (BL4.out.below B6.out)
    have hjl := joinL_bound (N := 700) (by omega) [List.replicate K (0 : UInt8)] (by simp; omega)
    have HJL := hid hjl
    have HXL := hid (SC4.out.2.1)
    have CA := hid (lsc_add w1 w6 _ g q _ _ 1 1 [List.replicate K 0] S6.out BL6.out ⟨by simp; omega, Nat.le_trans hjl (by simp), by simp⟩ (by show ((bs.map Prod.snd).drop 1).flatten.length + 1 ≤ _; have := ST.out.few; omega) L1.out (by have := ST.out.steps; show s.steps + _ < _; omega) (by show s.way.length + _ < _; rw [ST.out.way]; decide))
    have CP := hid fun (W : World) (hb : BL W (fun j => wr.heap.size ≤ j ∧ j < z + 1) (.slice (some ⟨z, 0, none⟩) 1 1) [List.replicate K 0]) (hs : w4.heap.size ≤ W.heap.size) => lparts_calls W _ _ 1 1 [List.replicate K 0] hb (fun j hj => Nat.lt_of_lt_of_le (HXL.out j hj).2 hs) (by simp; omega) (Nat.le_trans HJL.out (by simp)) (by simp)
    obtain ⟨N, hN⟩ : ∃ N, partsL [List.replicate K (0 : UInt8)] = N := ⟨_, rfl⟩
    have hNb : (N : Int) ≤ 100 := by rw [← hN]; unfold partsL npart; simp at hjl; omega
    have hstep := rm_step ST.out (t := List.replicate K 0) (by simp; omega)
    rw [hN] at CP hstep
    clear hN hjl
    rcases hstep with ⟨hle, s2, bs2, ha2, hst2, hlb2⟩ | ⟨hle, ha2, hst2⟩
    · rw [ha2] at CA
      dsimp only at CA
      have ST2 := hid hst2
      have hle' : (N : Int) ≤ (R : Int) := by have := HR.out; omega
      have hRN := hid (show (((scD s2 k ⟨2, 1, 1, 0⟩ bs2).size - (scD s2 k ⟨2, 1, 1, 0⟩ bs2).next : Nat) : Int) = (R : Int) - (N : Int) from by show ((k - lenB bs2 : Nat) : Int) = _; have := HR.out; omega)
      clear ha2 hst2 hlb2 hle
      go_upto_region 16 with (go_at_call 40; go_must (refine CA.out.mono ?_; rintro e w8 ⟨rfl, h8, hk8⟩; have S8 := hid h8; have BL8 := hid (hk8.bl BL6.out); have W8 := hid (show w4.heap.size ≤ w8.heap.size from Nat.le_trans B6.out.size (let ⟨_, hc, _⟩ := hk8; hc.size)); clear h8 hk8; dsimp only))
      go_wp2_with (first
        | (go_at_call 41; have hx := L10.out; clear hx; go_must (refine (CP.out w10 (BL8.out.below L10.out) (Nat.le_trans W8.out L10.out.size)).mono ?_; rintro e w11 ⟨rfl, hb11⟩; have L11 := hid (L10.out.trans (hb11.mono L10.out.size)); clear hb11; dsimp only))
        | (go_at_call 41; refine (CP.out w8 BL8.out W8.out).mono ?_; rintro e w9 ⟨rfl, hb9⟩; have L9 := hid hb9; have CL9 := hid (lsc_left w1 w9 _ g q _ (S8.out.below hb9)); rw [hRN.out] at CL9; clear hb9; dsimp only)
        | (go_at_call 37; go_must (refine CL9.out.mono ?_; rintro e w10 ⟨rfl, hb10⟩; have L10 := hid (L9.out.trans (hb10.mono L9.out.size)); clear hb10; dsimp only)))
      have Rl : RmRel w1 g q k l.length (.int .i64 ((i : Int) + 1)) w11 := ⟨i + 1, s2, bs2, rfl, hlt, by omega, (S8.out.below L11.out).less (fun _ h => h.elim), ST2.out⟩
      have HRl := hid Rl
      clear Rl
      refine ⟨?_, by simp only [intOf]; omega⟩
      first | exact HRl.out | ((repeat apply Exists.intro); refine ⟨HRl.out, ?_⟩; and_intros <;> rfl)
    · rw [ha2] at CA
      dsimp only at CA
      have ST2 := hid hst2
      have hle' : ¬ ((N : Int) ≤ (R : Int)) := by have := HR.out; have := ST.out.dk.fit; omega
      have hRN := hid (show (((scD s k ⟨2, 1, 1, 0⟩ bs).size - (scD s k ⟨2, 1, 1, 0⟩ bs).next : Nat) : Int) = (R : Int) from by rw [← HR.out]; rfl)
      clear ha2 hst2 hle
      go_upto_region 16 with (go_at_call 40; go_must (refine CA.out.mono ?_; rintro e w8 ⟨rfl, h8, hk8⟩; have S8 := hid h8; have BL8 := hid (hk8.bl BL6.out); have W8 := hid (show w4.heap.size ≤ w8.heap.size from Nat.le_trans B6.out.size (let ⟨_, hc, _⟩ := hk8; hc.size)); clear h8 hk8; dsimp only))
      go_wp2_with (first
        | (go_at_call 41; go_must (refine (CP.out w8 BL8.out W8.out).mono ?_; rintro e w9 ⟨rfl, hb9⟩; have L9 := hid hb9; have CL9 := hid (lsc_left w1 w9 _ g q _ (S8.out.below hb9)); rw [hRN.out] at CL9; clear hb9; dsimp only))
        | (go_at_call 37; go_must (refine CL9.out.mono ?_; rintro e w10 ⟨rfl, hb10⟩; have L10 := hid (L9.out.trans (hb10.mono L9.out.size)); have CR10 := hid (lsc_recs w1 w10 _ g q _ (S8.out.below L10.out)); clear hb10; dsimp only))
        | (go_at_call 36; go_must (refine CR10.out.mono ?_; rintro e w11 ⟨ts7, bv7, rfl, hm7, htx7, hb7⟩; obtain ⟨a7, n7, c7, rfl, hn7, _, _⟩ := htx7.rb.cs; obtain rfl : n4 = n7 := (by rw [← hn7, ← HH.out]; have h := congrArg List.length hm7; rw [List.length_map] at h; exact h.symm); have L11 := hid (L10.out.trans (hb7.mono L10.out.size)); clear hm7 htx7 hb7 hn7; dsimp only)))
      have Rl : RmRel w1 g q k l.length (.int .i64 ((i : Int) + 1)) w11 := ⟨i + 1, s, bs, rfl, hlt, by omega, (S8.out.below L11.out).less (fun _ h => h.elim), ST2.out⟩
      have HRl := hid Rl
      clear Rl
      refine ⟨?_, by simp only [intOf]; omega⟩
      first | exact HRl.out | ((repeat apply Exists.intro); refine ⟨HRl.out, ?_⟩; and_intros <;> rfl)
end Go.Proofs.YtoapibbbooongaaDoor
