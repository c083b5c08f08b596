/- The walks of layer 7: all that is there is read. -/
import Derived.Test.YtoapibbbooongaaDoorScrRd
namespace Go.Proofs.YtoapibbbooongaaDoor
open Go.RowKit Go.Quad _root_.Quad _root_.Quad.Slab _root_.Quad.Ink

set_option maxRecDepth 100000 in
set_option maxHeartbeats 8000000 in
theorem sread_calls (w : World) (B g d : Nat) (wv : Value) (q : Nat) (s : Sl) (size : Nat) (r : RootD) (hS : IsSlab w B g d wv s) (hq : Blk w q (scrV g (sc0 s size r) (.slice none 0 0) (.slice none 0 0)) 138) (hqs : q ∉ slS g d wv) (hB : B ≤ q) (hB0 : 0 < B) (hr : r.Ok) (har : r.area ≤ 1) (hz : size ≤ 4096) (hlen : 2 + 2 * size ≤ s.done.length) (ho : s.off = false) (hl : Laid w) :
    Calls Tryd.prog 69 #[.pointer (some ⟨q, 0, none⟩)] w (SReadTo w B g q s size r) := by
  have b1 := below_alloc w (.cells #[.slice none 0 0, .int .u32 0, .int .i64 0] 173)
  have k1 := blk_alloc w [.slice none 0 0, .int .u32 0, .int .i64 0] 173
  obtain ⟨b, hbb⟩ : ∃ b, w.heap.size = b := ⟨_, rfl⟩
  rw [hbb] at k1
  have HS := hid hS
  have HQ := hid hq
  have HR := hid hr
  have HAR := hid har
  have HLN := hid hlen
  have HO := hid ho
  have HL := hid hl
  have HQS := hid hqs
  have HBQ := hid hB
  have HBB := hid hbb
  have B1 := hid b1
  have K1 := hid k1
  have hz' : (size : Int) ≤ 4096 := by omega
  have ha' : (r.area : Int) ≤ 1 := by omega
  clear hS hq hqs hB hr har hlen ho hl hbb b1 k1
  go_enter Tryd.func69, Tryd.ntmps69
  go_upto_region 2 with fail
  rw [HBB.out]
  generalize (w.alloc (.cells #[.slice none 0 0, .int .u32 0, .int .i64 0] 173)) = w1 at B1 K1 ⊢
  have Q1 := hid (HQ.out.below B1.out)
  have R0 := hid (show RlRel w1 q b g (sc0 s size r) (.int .u32 0) (.int .i64 0) w1 from ⟨0, ⟨0, 0, [], []⟩, .slice none 0 0, .slice none 0 0, .slice none 0 0, [], 0, rfl, rfl, Nat.zero_le _, rfl, ⟨Q1.out, K1.out, ⟨by omega, fun h => by omega⟩, Nat.le_refl _, World.ownsRow_nil _ _ _ _, ⟨none, 0, rfl, BS.nil _, InQ.none _⟩, rfl, ⟨RO.nil _ _ _ _ _, by simp⟩, by simp, by simp [Value.ownBlock], Chg.refl _ _, ⟨by simp, by simp⟩, ⟨Nat.zero_le _, by simp, by show 0 < 4294967296; omega, by simp⟩⟩⟩)
  go_wp2_with fail
  go_loopw [4, 5] (fun ev kv wr => RlRel w1 q b g (sc0 s size r) ev kv wr) (fun _ kv _ => size - (intOf kv).toNat)
  case atStart => exact R0.out
  case round =>
    clear R0
    obtain ⟨k, rd, pv, sv, rv, ts, be, rfl, rfl, hk, hgo, hst⟩ := hrel
    have hk : k ≤ size := hk
    have GO := hid hgo
    have ST := hid hst
    have hb6 := Nat.le_trans B1.out.size hst.chg.size
    have SL := hid ((HS.out.below B1.out).chg hst.chg (fun x hx hm => by
      rcases List.mem_cons.1 hx with rfl | hx
      · exact HQS.out hm
      · rw [List.mem_singleton] at hx
        have := (HS.out.in_ge x hm).2; have := HBB.out; omega))
    have LD := hid (show Laid wr from (HL.out.below B1.out HL.out.1).below (hst.chg.below (B := 1) (by have := B1.out.size; have := HL.out.1; omega) (fun x hx => by
      have := HL.out.1
      rcases List.mem_cons.1 hx with rfl | hx
      · have := HBQ.out; omega
      · rw [List.mem_singleton] at hx; have := HBB.out; omega)) (by decide))
    have q1 := hst.own.get 1 rfl
    clear hgo hst
    by_cases hlt : k < size
    · have hlt' : (k : Int) < (size : Int) := by omega
      dsimp only [sc0] at q1
      go_upto_region 6 with fail
      have hae : r.area = 0 ∨ r.area = 1 := by have := HAR.out; omega
      have hv1 : (0 : Int) ≤ (r.area : Int) * (size : Int) := by rcases hae with e | e <;> rw [e] <;> simp
      have hv2 : (r.area : Int) * (size : Int) ≤ 4096 := by rcases hae with e | e <;> rw [e] <;> simp <;> omega
      have hidx : (2 + (r.area : Int) * (size : Int) + (k : Int)) = ((areaN size r.area k : Nat) : Int) := by
        unfold areaN
        rw [Int.natCast_add, Int.natCast_add, Int.natCast_mul]
        omega
      have hk' : (k : Int) ≤ 4096 := by omega
      have hin : areaN size r.area k < s.done.length := by
        have := HLN.out
        unfold areaN
        rcases hae with e | e <;> rw [e] <;> omega
      have HIX := hid hidx
      have HIN := hid hin
      clear hidx hae hin
      have MKS := hid fun (W : World) (hW : Below wr.heap.size wr W) => (show (W.cell? ⟨q, 0, none⟩ = some (.pointer (some ⟨g, 0, none⟩)) ∧ W.cell? ⟨q, 1, none⟩ = some (.int .i64 (size : Int)) ∧ W.cell? ⟨q, 5, none⟩ = some (.int .u8 (r.area : Int)) ∧ Below wr.heap.size wr W) from ⟨(ST.out.own.below hW).get 0 rfl, (ST.out.own.below hW).get 1 rfl, (ST.out.own.below hW).get 5 rfl, hW⟩)
      have SB := hid fun (W : World) (h : (W.cell? ⟨q, 0, none⟩ = some (.pointer (some ⟨g, 0, none⟩)) ∧ W.cell? ⟨q, 1, none⟩ = some (.int .i64 (size : Int)) ∧ W.cell? ⟨q, 5, none⟩ = some (.int .u8 (r.area : Int)) ∧ Below wr.heap.size wr W)) => h.2.2.2
      have HG := hid fun (W : World) (i : Int) (hi : i = ((areaN size r.area k : Nat) : Int)) (hW : Below wr.heap.size wr W) => (show Calls Tryd.prog 47 #[.pointer (some ⟨g, 0, none⟩), .int .i64 i] W (BGetTo W (getB s ((areaN size r.area k : Nat) : Int))) from by
        subst hi; exact bget_calls W B g d wv s _ (SL.out.below hW) (by have := HIX.out; omega) (LD.out.below hW LD.out.1))
      have WR := hid ((idx_wrap (r.area : Int) (size : Int) (k : Int) (by omega) ha' hv1 hv2 (by omega) hk').trans HIX.out)
      obtain ⟨rr, hrr⟩ : ∃ rr, getB s ((areaN size r.area k : Nat) : Int) = rr := ⟨_, rfl⟩
      have HRR := hid hrr
      rw [hrr] at HG
      clear hrr
      obtain ⟨⟨kd, ep, ba, bb, dat⟩, er⟩ := rr
      have q0 := ST.out.own.get 0 rfl
      have q1 := ST.out.own.get 1 rfl
      have q5 := ST.out.own.get 5 rfl
      dsimp only [sc0] at q0 q1 q5
      have bd := below_drew wr
      go_cut [6, 7] from 8 to 40 (fun v6 v7 w' => BlMid7 wr (⟨kd, ep, ba, bb, dat⟩, er) v6 v7 w')
      case first =>
        as_aux_lemma =>
          go_region_held3 (fun W => (W.cell? ⟨q, 0, none⟩ = some (.pointer (some ⟨g, 0, none⟩)) ∧ W.cell? ⟨q, 1, none⟩ = some (.int .i64 (size : Int)) ∧ W.cell? ⟨q, 5, none⟩ = some (.int .u8 (r.area : Int)) ∧ Below wr.heap.size wr W))
            ((refine MKS.out _ ?_; first | with_reducible exact below_drew _ | with_reducible exact (SB.out _ (by assumption)).trans ((below_alloc _ _).mono (SB.out _ (by assumption)).size) | with_reducible exact HB.out | with_reducible exact HB.out.trans ((below_alloc _ _).mono HB.out.size) | with_reducible exact Below.refl _ _ | with_reducible exact below_setNew7 (below_setNew7 (below_setNew7 (below_setNew7 (below_setNew7 HB.out (Nat.le_refl _)) (Nat.le_refl _)) (Nat.le_refl _)) (Nat.le_refl _)) (Nat.le_refl _)))
            ((go_at_call 47; refine (HG.out _ _ WR.out (SB.out _ (by assumption))).mono ?_; rintro e w4 ⟨a, n, p, rfl, hn, hO, hb⟩; dsimp only at hn hO ⊢; have HN := hid hn; have HO := hid (show BS w4 a p dat ∧ (∀ x, a = some x → wr.heap.size ≤ x.block ∧ x.block < w4.heap.size) from (by obtain ⟨a', c', e', h1, h2⟩ := hO.bs; cases e'; exact ⟨h1, fun x hx => ⟨by have := (h2 x hx).2.2.1; simp at this; omega, (h2 x hx).2.2.2⟩⟩)); have HB := hid ((SB.out _ (by assumption)).trans (hb.mono (SB.out _ (by assumption)).size)); (first | (have NQ := hid (show ∀ x, a = some x → x.block ≠ wr.heap.size from (by obtain ⟨a', c', e', h1, h2⟩ := hO.bs; cases e'; exact fun x hx => by have := (h2 x hx).2.2.1; simp at this; omega)); have K4 := hid (show Blk w4 wr.heap.size [.int .u8 0, .int .u32 0, .int .u32 0, .int .u32 0, .slice none 0 0] 96 from (blk_alloc wr.drew [.int .u8 0, .int .u32 0, .int .u32 0, .int .u32 0, .slice none 0 0] 96).below hb); have d0 := K4.out.get 0 rfl; have d1 := K4.out.get 1 rfl; have d2 := K4.out.get 2 rfl; have d3 := K4.out.get 3 rfl; have d4 := K4.out.get 4 rfl; have f0 := K4.out.free 0; have f1 := K4.out.free 1; have f2 := K4.out.free 2; have f3 := K4.out.free 3; have f4 := K4.out.free 4) | skip); clear hn hO hb))
          · have R : BlMid7 wr (⟨kd, ep, ba, bb, dat⟩, er) (.pointer (some ⟨w4.heap.size, 0, none⟩)) (.int .i64 (er : Int)) (w4.alloc (.cells (blkCs7 ⟨kd, ep, ba, bb, dat⟩ a n p).toArray 96)) := by
              refine ⟨w4.heap.size, a, n, p, rfl, rfl, blk_alloc w4 _ _, HN.out, bs_keep HO.out.1 (Chg.of_below [] (below_alloc _ _)) (.inr (by simp)), fun x hx => ⟨(HO.out.2 x hx).1, by have := (HO.out.2 x hx).2; simp; omega⟩, HB.out.size, HB.out.trans ((below_alloc _ _).mono HB.out.size)⟩
            have HR := hid R
            clear R
            go_wp2_with fail
            go_meet
            exact HR.out
          · obtain ⟨w5, hw5⟩ : ∃ w5, ((((w4.setCell ⟨wr.heap.size, 0, none⟩ (.int .u8 (kd : Int))).setCell ⟨wr.heap.size, 1, none⟩ (.int .u32 (ep : Int))).setCell ⟨wr.heap.size, 2, none⟩ (.int .u32 (ba : Int))).setCell ⟨wr.heap.size, 3, none⟩ (.int .u32 (bb : Int))).setCell ⟨wr.heap.size, 4, none⟩ (.slice a n p) = w5 := ⟨_, rfl⟩
            have R : BlMid7 wr (⟨kd, ep, ba, bb, dat⟩, er) (.pointer (some ⟨wr.heap.size, 0, none⟩)) (.int .i64 (er : Int)) w5 := by
              have s1 := K4.out.set 0 (.int .u8 (kd : Int))
              have s2 := s1.set 1 (.int .u32 (ep : Int))
              have s3 := s2.set 2 (.int .u32 (ba : Int))
              have s4 := s3.set 3 (.int .u32 (bb : Int))
              have s5 := s4.set 4 (.slice a n p)
              have hc := ((((chg_setCell w4 wr.heap.size 0 (.int .u8 (kd : Int))).trans (chg_setCell _ wr.heap.size 1 (.int .u32 (ep : Int)))).trans (chg_setCell _ wr.heap.size 2 (.int .u32 (ba : Int)))).trans (chg_setCell _ wr.heap.size 3 (.int .u32 (bb : Int)))).trans (chg_setCell _ wr.heap.size 4 (.slice a n p))
              rw [hw5] at s5 hc
              exact ⟨wr.heap.size, a, n, p, rfl, rfl, s5, HN.out, bs_keep HO.out.1 hc (.inr fun x hx hm => NQ.out x hx (by simpa using hm)), fun x hx => ⟨(HO.out.2 x hx).1, Nat.lt_of_lt_of_le (HO.out.2 x hx).2 hc.size⟩, Nat.le_refl _, HB.out.trans (hc.below HB.out.size (by simp))⟩
            rw [hw5]
            have HR := hid R
            clear R
            go_wp2_with fail
            go_meet
            exact HR.out
      case rest =>
        clear bd q0 q1 q5 HG MKS SB WR
        obtain ⟨y, a, n, cp, rfl, rfl, hB, hn, hbs, hof, hy, hbl⟩ := hcut
        dsimp only at hB hn hbs
        have K6 := hid hB
        have BS6 := hid hbs
        have OF6 := hid hof
        have BL6 := hid hbl
        have HN6 := hid hn
        have HY := hid hy
        have S6 := hid (SL.out.below hbl)
        have H13 := hid (show er ≠ 13 from by have h := getB_on HIN.out HO.out; rw [HRR.out] at h; exact h)
        have hne13 : ¬ ((er : Int) = 13) := by have := H13.out; omega
        have HOKB := hid (show (BlkD.mk kd ep ba bb dat).Ok from by have h := getB_ok s ((areaN size r.area k : Nat) : Int); rw [HRR.out] at h; exact h)
        clear hB hn hbs hof hbl hy
        go_upto_region 9 with fail
        obtain ⟨gd, hgd⟩ : ∃ gd, goodA (seeA s size r.area) r.gen k rd = gd := ⟨_, rfl⟩
        have HGD := hid hgd
        have GI := hid (goodA_iff (G := seeA s size r.area) (gen := r.gen) (at' := k) (q := rd) (b := ⟨kd, ep, ba, bb, dat⟩) (e := er) HRR.out)
        rw [hgd] at GI
        clear hgd
        have y0 := K6.out.get 0 rfl
        have y1 := K6.out.get 1 rfl
        have y2 := K6.out.get 2 rfl
        have y3 := K6.out.get 3 rfl
        have y4 := K6.out.get 4 rfl
        have q4 := (ST.out.own.below BL6.out).get 4 rfl
        have p1 := (ST.out.bat.below BL6.out).get 1 rfl
        have p2 := (ST.out.bat.below BL6.out).get 2 rfl
        dsimp only [sc0] at q4 y0 y1 y2 y3 y4
        obtain ⟨mm, hmm⟩ : ∃ mm, k - rd.next = mm := ⟨_, rfl⟩
        rw [hmm] at p2
        have HMM := hid hmm
        clear hmm
        go_cut [100] from 40 to 101 (fun v100 w' => v100 = .bool (!gd) ∧ ∃ m, w' = wc.drewN m)
        case first =>
          as_aux_lemma =>
            by_cases e0 : er = 0
            case neg =>
              have hg : gd = false := by
                cases hh : gd with
                | false => rfl
                | true =>
                  obtain ⟨g0, g1, g2, g3, g4, g5, g6⟩ := GI.out.1 hh
                  dsimp only at g0 g1 g2 g3 g4 g5 g6
                  exact absurd g0 e0
              subst hg
              have e0' : ((er : Int) != 0) = true := by rw [bne_iff_ne]; omega
              clear GI HGD
              go_quiet (fail)
              go_wp2_with fail
              go_meet
              exact ⟨rfl, _, rfl⟩
            subst e0
            by_cases e1 : kd = 2 ∨ kd = 3
            case neg =>
              have hg : gd = false := by
                cases hh : gd with
                | false => rfl
                | true =>
                  obtain ⟨g0, g1, g2, g3, g4, g5, g6⟩ := GI.out.1 hh
                  dsimp only at g0 g1 g2 g3 g4 g5 g6
                  exact absurd g1 e1
              subst hg
              have e1' : ((kd : Int) != 2) = true := by rw [bne_iff_ne]; omega
              have e2' : ((kd : Int) != 3) = true := by rw [bne_iff_ne]; omega
              clear e1
              clear GI HGD
              go_quiet (fail)
              go_wp2_with fail
              go_meet
              exact ⟨rfl, _, rfl⟩
            have hdl : dat.length = n := HN6.out
            have E1 := hid e1
            have hk9 : (k : Int) ≤ 4096 := by omega
            rcases e1 with h | h
            · subst h
              clear hdl
              by_cases e2 : ba = r.gen
              case neg =>
                have hg : gd = false := by
                  cases hh : gd with
                  | false => rfl
                  | true =>
                    obtain ⟨g0, g1, g2, g3, g4, g5, g6⟩ := GI.out.1 hh
                    dsimp only at g0 g1 g2 g3 g4 g5 g6
                    exact absurd g2 e2
                subst hg
                have e2' : ((ba : Int) != (r.gen : Int)) = true := by rw [bne_iff_ne]; omega
                clear GI HGD
                go_quiet (fail)
                go_wp2_with fail
                go_meet
                exact ⟨rfl, _, rfl⟩
              subst e2
              by_cases e3 : bb = k
              case neg =>
                have hg : gd = false := by
                  cases hh : gd with
                  | false => rfl
                  | true =>
                    obtain ⟨g0, g1, g2, g3, g4, g5, g6⟩ := GI.out.1 hh
                    dsimp only at g0 g1 g2 g3 g4 g5 g6
                    exact absurd g3 e3
                subst hg
                have e3' : ((bb : Int) != (k : Int)) = true := by rw [bne_iff_ne]; omega
                clear GI HGD
                go_quiet (fail)
                go_wp2_with fail
                go_meet
                exact ⟨rfl, _, rfl⟩
              obtain rfl : k = bb := e3.symm
              by_cases e4 : rd.epoch ≤ ep
              case neg =>
                have hg : gd = false := by
                  cases hh : gd with
                  | false => rfl
                  | true =>
                    obtain ⟨g0, g1, g2, g3, g4, g5, g6⟩ := GI.out.1 hh
                    dsimp only at g0 g1 g2 g3 g4 g5 g6
                    exact absurd g4 e4
                subst hg
                have e4' : (ep : Int) < (rd.epoch : Int) := by omega
                clear GI HGD
                go_quiet (fail)
                go_wp2_with fail
                go_meet
                exact ⟨rfl, _, rfl⟩
              have e4' : ¬ ((ep : Int) < (rd.epoch : Int)) := by omega
              by_cases e5 : n = 104
              case neg =>
                have hg : gd = false := by
                  cases hh : gd with
                  | false => rfl
                  | true =>
                    obtain ⟨g0, g1, g2, g3, g4, g5, g6⟩ := GI.out.1 hh
                    dsimp only at g0 g1 g2 g3 g4 g5 g6
                    exact absurd (HN6.out.symm.trans (g6 rfl)) e5
                subst hg
                have e5' : ((n : Int) != 104) = true := by rw [bne_iff_ne]; omega
                clear GI HGD
                go_quiet (fail)
                go_wp2_with fail
                go_meet
                exact ⟨rfl, _, rfl⟩
              subst e5
              by_cases e6 : rd.next < k
              case neg =>
                have hg : gd = true := GI.out.2 ⟨rfl, .inl rfl, rfl, rfl, e4, fun h => absurd h e6, fun _ => HN6.out⟩
                subst hg
                have hmm0 : mm = 0 := by have := HMM.out; omega
                clear e6 HMM
                subst hmm0
                clear GI HGD
                go_quiet (fail)
                go_wp2_with fail
                go_meet
                exact ⟨rfl, _, rfl⟩
              have e6n : 0 < mm := by have := HMM.out; omega
              have e6' : (0 : Int) < (mm : Int) := by omega
              have e6d : decide ((0 : Int) < (mm : Int)) = true := decide_eq_true e6'
              have e6f : decide (0 < mm) = true := decide_eq_true e6n
              have hbe : be = rd.epoch := ST.out.be.2 e6
              have E6 := hid e6
              subst hbe
              clear e6
              by_cases e7 : ep = rd.epoch
              case neg =>
                have hg : gd = false := by
                  cases hh : gd with
                  | false => rfl
                  | true =>
                    obtain ⟨g0, g1, g2, g3, g4, g5, g6⟩ := GI.out.1 hh
                    dsimp only at g0 g1 g2 g3 g4 g5 g6
                    exact absurd (g5 E6.out) e7
                subst hg
                have e7' : ((ep : Int) != (rd.epoch : Int)) = true := by rw [bne_iff_ne]; omega
                clear e7
                clear GI HGD
                go_quiet (fail)
                go_wp2_with fail
                go_meet
                exact ⟨rfl, _, rfl⟩
              subst e7
              have hg : gd = true := GI.out.2 ⟨rfl, .inl rfl, rfl, rfl, e4, fun _ => rfl, fun _ => HN6.out⟩
              subst hg
              clear GI HGD
              go_quiet (fail)
              go_wp2_with fail
              go_meet
              exact ⟨rfl, _, rfl⟩
            · subst h
              clear hdl
              by_cases e2 : ba = r.gen
              case neg =>
                have hg : gd = false := by
                  cases hh : gd with
                  | false => rfl
                  | true =>
                    obtain ⟨g0, g1, g2, g3, g4, g5, g6⟩ := GI.out.1 hh
                    dsimp only at g0 g1 g2 g3 g4 g5 g6
                    exact absurd g2 e2
                subst hg
                have e2' : ((ba : Int) != (r.gen : Int)) = true := by rw [bne_iff_ne]; omega
                clear GI HGD
                go_quiet (fail)
                go_wp2_with fail
                go_meet
                exact ⟨rfl, _, rfl⟩
              subst e2
              by_cases e3 : bb = k
              case neg =>
                have hg : gd = false := by
                  cases hh : gd with
                  | false => rfl
                  | true =>
                    obtain ⟨g0, g1, g2, g3, g4, g5, g6⟩ := GI.out.1 hh
                    dsimp only at g0 g1 g2 g3 g4 g5 g6
                    exact absurd g3 e3
                subst hg
                have e3' : ((bb : Int) != (k : Int)) = true := by rw [bne_iff_ne]; omega
                clear GI HGD
                go_quiet (fail)
                go_wp2_with fail
                go_meet
                exact ⟨rfl, _, rfl⟩
              obtain rfl : k = bb := e3.symm
              by_cases e4 : rd.epoch ≤ ep
              case neg =>
                have hg : gd = false := by
                  cases hh : gd with
                  | false => rfl
                  | true =>
                    obtain ⟨g0, g1, g2, g3, g4, g5, g6⟩ := GI.out.1 hh
                    dsimp only at g0 g1 g2 g3 g4 g5 g6
                    exact absurd g4 e4
                subst hg
                have e4' : (ep : Int) < (rd.epoch : Int) := by omega
                clear GI HGD
                go_quiet (fail)
                go_wp2_with fail
                go_meet
                exact ⟨rfl, _, rfl⟩
              have e4' : ¬ ((ep : Int) < (rd.epoch : Int)) := by omega
              by_cases e6 : rd.next < k
              case neg =>
                have hg : gd = true := GI.out.2 ⟨rfl, .inr rfl, rfl, rfl, e4, fun h => absurd h e6, fun h => by cases h⟩
                subst hg
                have hmm0 : mm = 0 := by have := HMM.out; omega
                clear e6 HMM
                subst hmm0
                clear GI HGD
                go_quiet (fail)
                go_wp2_with fail
                go_meet
                exact ⟨rfl, _, rfl⟩
              have e6n : 0 < mm := by have := HMM.out; omega
              have e6' : (0 : Int) < (mm : Int) := by omega
              have e6d : decide ((0 : Int) < (mm : Int)) = true := decide_eq_true e6'
              have e6f : decide (0 < mm) = true := decide_eq_true e6n
              have hbe : be = rd.epoch := ST.out.be.2 e6
              have E6 := hid e6
              subst hbe
              clear e6
              by_cases e7 : ep = rd.epoch
              case neg =>
                have hg : gd = false := by
                  cases hh : gd with
                  | false => rfl
                  | true =>
                    obtain ⟨g0, g1, g2, g3, g4, g5, g6⟩ := GI.out.1 hh
                    dsimp only at g0 g1 g2 g3 g4 g5 g6
                    exact absurd (g5 E6.out) e7
                subst hg
                have e7' : ((ep : Int) != (rd.epoch : Int)) = true := by rw [bne_iff_ne]; omega
                clear e7
                clear GI HGD
                go_quiet (fail)
                go_wp2_with fail
                go_meet
                exact ⟨rfl, _, rfl⟩
              subst e7
              have hg : gd = true := GI.out.2 ⟨rfl, .inr rfl, rfl, rfl, e4, fun _ => rfl, fun h => by cases h⟩
              subst hg
              clear GI HGD
              go_quiet (fail)
              go_wp2_with fail
              go_meet
              exact ⟨rfl, _, rfl⟩
        case rest =>
          obtain ⟨rfl, m, rfl⟩ := hcut
          have bm := below_drewN (Below.refl wc.heap.size wc) m
          have BL7 := hid (BL6.out.trans (bm.mono BL6.out.size))
          have BS7 := hid (BS6.out.below bm)
          have K7 := hid (K6.out.below bm)
          have NX := hid (show readGo (seeA s size r.area) r.gen (size - k) k rd = readS s size r from GO.out)
          clear bm GO y0 y1 y2 y3 y4 q4 p1 p2 K6 BS6
          generalize wc.drewN m = w7 at BL7 BS7 K7 ⊢
          cases gd with
          | false =>
            have e1 : rd = readS s size r := by
              rw [← NX.out, show size - k = (size - k - 1) + 1 from by omega]
              unfold readGo stepRd
              rw [HGD.out]
              rfl
            have FIN := hid (RdSt.fin ST.out B1.out (by have := HBB.out; omega) HBQ.out HQ.out.lt hk HR.out HAR.out hz ⟨congrArg Rd.next e1, congrArg Rd.out e1⟩)
            have E1 := hid e1
            clear e1
            have q6 := (ST.out.own.below BL7.out).get 6 rfl
            have hnx := ST.out.le
            have HFEW := hid ST.out.few
            dsimp only at q6
            by_cases hn0 : rd.next = 0
            · have hn0' : (rd.next : Int) = 0 := by omega
              have hn0'' : ((rd.next : Int) == 0) = true := by rw [hn0]; rfl
              clear hn0'
              go_wp2_with fail
              go_ret
              refine ⟨FIN.out.1.trans (Chg.of_below _ BL7.out), .inl ⟨rfl, ?_⟩⟩
              rw [← E1.out]
              exact HFEW.out.2.1.1 hn0
            · have hn0'' : ((rd.next : Int) == 0) = false := by rw [beq_eq_false_iff_ne]; omega
              have HN0 := hid hn0
              clear hn0
              go_wp2_with fail
              go_ret
              refine ⟨FIN.out.1.trans (Chg.of_below _ BL7.out), .inr ⟨rfl, ?_, ?_⟩⟩
              · rw [← E1.out]
                exact fun h => HN0.out (HFEW.out.2.1.2 h)
              · exact by obtain ⟨Q, sv, rv, ts, h1, h2, h3⟩ := FIN.out.2 HN0.out; exact ⟨Q, sv, rv, ts, h1.below BL7.out, h2, h3⟩
          | true =>
            obtain ⟨pa, pn, pc, epv⟩ : ∃ pa pn pc, pv = .slice pa pn pc := by
              obtain ⟨pa, pc, e, _⟩ := ST.out.p.bs
              exact ⟨pa, _, pc, e⟩
            subst epv
            have HDS := hid (show dat.length ≤ 255 from by have h := getB_short s ((areaN size r.area k : Nat) : Int); rw [HRR.out] at h; exact h)
            have y1 := K7.out.get 1 rfl
            dsimp only at y1
            go_upto_region 11 with fail
            have bd := below_drew w7
            have BAT7 := hid (ST.out.bat.below (BL7.out.trans (bd.mono BL7.out.size)))
            have K7d := hid (K7.out.below bd)
            have RP7 := hid (ob_ro.1 (ST.out.p.below (BL7.out.trans (bd.mono BL7.out.size))))
            have BS7d := hid (show CS w7.drew a cp 1 (dat.flatMap u8f) from by rw [u8f_flat]; exact BS7.out.below bd)
            have HCAP := hid (show n ≤ cp from by have := BS7.out.fit'; have := HN6.out; omega)
            have NB := hid (show ∀ x, (Value.slice pa pn pc).ownBlock = some x → x ≠ b ∧ x ≠ y ∧ x ≠ q from fun x hx => by
              have h1 := ST.out.p.ownLt hx
              have h2 := ST.out.p.ownBlock x hx
              have := HBB.out; have := B1.out.size; have := HY.out; have := HQ.out.lt; have := K1.out.lt
              refine ⟨by omega, by omega, by omega⟩)
            have YB := hid (show y ≠ b from by have := HY.out; have := HBB.out; have := K1.out.lt; have := ST.out.chg.size; omega)
            have b0 := BAT7.out.get 0 rfl
            have b1 := BAT7.out.get 1 rfl
            have b2 := BAT7.out.get 2 rfl
            have z0 := K7d.out.get 0 rfl
            have z1 := K7d.out.get 1 rfl
            have z4 := K7d.out.get 4 rfl
            dsimp only at z0 z1 z4
            obtain ⟨mm2, hmm2⟩ : ∃ mm2, k - rd.next = mm2 := ⟨_, rfl⟩
            rw [hmm2] at b2 BAT7
            have HM2 := hid hmm2
            have hm4 : (mm2 : Int) ≤ 4096 := by omega
            clear hmm2 bd
            -- region 11
            have MKY := hid fun (W : World) (hW : Blk W y (blkCs7 ⟨kd, ep, ba, bb, dat⟩ a n cp) 96) => (show (W.cell? ⟨y, 1, none⟩ = some (.int .u32 (ep : Int)) ∧ W.cell? ⟨y, 4, none⟩ = some (.slice a n cp)) from ⟨hW.get 1 rfl, hW.get 4 rfl⟩)
            have SY7 := hid (MKY.out _ K7.out)
            have SY7d := hid (MKY.out _ K7d.out)
            go_cut [] from 103 to 114 (fun w' => ∃ a8 n8 c8, Blk w' b [.slice a8 n8 c8, .int .u32 (ep : Int), .int .i64 ((mm2 : Int) + 1)] 173 ∧ RO u8f 1 w' w1.heap.size 5 (.slice a8 n8 c8) (rd.p ++ dat) ∧ (∀ x, (Value.slice a8 n8 c8).ownBlock = some x → (Value.slice pa pn pc).ownBlock = some x ∨ w7.heap.size ≤ x) ∧ Chg (b :: (Value.slice pa pn pc).ownBlock.toList) w7 w')
            case first =>
              as_aux_lemma =>
                go_region_law
                  (refine step_ok rfl ?_; refine opOk_append_ro u8f_len u8f_one (by decide) (.tmp 104) (.tmp 106) _ rfl w1.heap.size 5 _ 1 info_u8 rfl under_bytes _ rd.p RP7.out rfl (l' := dat) HN6.out BS7d.out HCAP.out rfl (by have h1 := ST.out.few.2.2.2; have h2 := HDS.out; omega) (Nat.le_trans ST.out.chg.size (Nat.le_trans BL7.out.size (below_drew w7).size)) ?_; intro v8 w8 ho8 hg8 hv8; obtain ⟨a8, n8, c8, rfl, _, _, _⟩ := ho8.cs; have O8 := hid ho8; have G8 := hid hg8; have V8 := hid hv8; have BAT8 := hid (BAT7.out.keep (chg_grown hg8) (fun hm => (NB.out b (by simpa using hm)).1 rfl)); have K8 := hid (K7d.out.keep (chg_grown hg8) (fun hm => (NB.out y (by simpa using hm)).2.1 rfl)); have x0 := K8.out.get 0 rfl; have x1 := K8.out.get 1 rfl; have x4 := K8.out.get 4 rfl; dsimp only at x0 x1 x4; have d0 := BAT8.out.get 0 rfl; have d1 := BAT8.out.get 1 rfl; have d2 := BAT8.out.get 2 rfl; have f0 := BAT8.out.free 0; have f1 := BAT8.out.free 1; have f2 := BAT8.out.free 2; clear ho8 hg8 hv8)
                all_goals
                  as_aux_lemma =>
                    have hc9 := ((chg_setCell w8 b 0 (.slice a8 n8 c8)).trans (chg_setCell _ b 1 (.int .u32 (ep : Int)))).trans (chg_setCell _ b 2 (.int .i64 ((mm2 : Int) + 1)))
                    have hB9 := ((BAT8.out.set 0 (.slice a8 n8 c8)).set 1 (.int .u32 (ep : Int))).set 2 (.int .i64 ((mm2 : Int) + 1))
                    rw [wrap_in ((mm2 : Int) + 1) (by omega) (by omega)]
                    obtain ⟨w9, hw9⟩ : ∃ w9, ((w8.setCell ⟨b, 0, none⟩ (.slice a8 n8 c8)).setCell ⟨b, 1, none⟩ (.int .u32 (ep : Int))).setCell ⟨b, 2, none⟩ (.int .i64 ((mm2 : Int) + 1)) = w9 := ⟨_, rfl⟩
                    rw [hw9] at hc9 hB9 ⊢
                    have R : ∃ a8 n8 c8, Blk w9 b [.slice a8 n8 c8, .int .u32 (ep : Int), .int .i64 ((mm2 : Int) + 1)] 173 ∧ RO u8f 1 w9 w1.heap.size 5 (.slice a8 n8 c8) (rd.p ++ dat) ∧ (∀ x, (Value.slice a8 n8 c8).ownBlock = some x → (Value.slice pa pn pc).ownBlock = some x ∨ w7.heap.size ≤ x) ∧ Chg (b :: (Value.slice pa pn pc).ownBlock.toList) w7 w9 :=
                      ⟨a8, n8, c8, hB9, O8.out.chg hc9 (fun x hx hm => by rw [List.mem_singleton] at hm; have := (O8.out.ownBlock x hx).1; have := HBB.out; have := K1.out.lt; omega), fun x hx => by
                        rcases V8.out with h | h
                        · exact .inl (h ▸ hx)
                        · rw [h] at hx; cases hx; exact .inr (below_drew w7).size, ((Chg.of_below _ (below_drew w7)).trans ((chg_grown G8.out).mono fun x hx => .inl (List.mem_cons_of_mem _ hx))).trans (hc9.mono fun x hx => .inl (by rw [List.mem_singleton] at hx; subst hx; simp))⟩
                    have HR11 := hid R
                    clear R hc9 hB9 hw9
                    go_wp2_with fail
                    go_meet
                    exact HR11.out
            case rest =>
              obtain ⟨a8, n8, c8, hb8, ho8, hv8, hc8⟩ := hcut
              have hep : ep < 4294967296 := HOKB.out.epoch
              have hd4 : dat.length ≤ 104 := by have h := getB_104 s ((areaN size r.area k : Nat) : Int); rw [HRR.out] at h; exact h
              have hc7 : Chg (b :: (Value.slice pa pn pc).ownBlock.toList) wr wc := (Chg.of_below _ BL7.out).trans hc8
              have hqb : q ≠ b := by have := HQ.out.lt; have := HBB.out; omega
              have MID := hid (ST.out.goes hc7 (Nat.lt_of_lt_of_le HQ.out.lt B1.out.size) hqb K1.out.lt (by rw [HM2.out]; exact hb8) ho8 (fun x hx => by
                rcases hv8 x hx with h | h
                · exact .inl h
                · exact .inr (Nat.le_trans BL7.out.size h)) hep hd4)
              have K8 := hid (K7.out.keep hc8 (fun hm => by
                rcases List.mem_cons.1 hm with e | hm
                · exact YB.out e
                · exact (NB.out y (by simpa using hm)).2.1 rfl))
              have QB := hid hqb
              have hob := (ob_ro.2 ho8).bs
              obtain ⟨hn8, hbs8⟩ : (rd.p ++ dat).length = n8 ∧ BS wc a8 c8 (rd.p ++ dat) := by
                obtain ⟨a', c', e, h1, _⟩ := hob
                cases e
                exact ⟨rfl, h1⟩
              have hl8 : (rd.p ++ dat).length ≤ 1000000 := by have := MID.out.few.2.2.2; dsimp only at this; omega
              have hl8' : (n8 : Int) ≤ 1000000 := by omega
              have LP8 := hid hl8
              have CSP := hid (split_calls wc a8 n8 c8 (rd.p ++ dat) hbs8 hn8 (by omega))
              have SM8 := hid (splitL_small (rd.p ++ dat))
              have SN8 := hid (splitL_len (rd.p ++ dat))
              have BB8 := hid hb8
              have hk9 : (k : Int) ≤ 4096 := by omega
              have GR := hid fun (R : Rd) (h : R = readS s size r) => h
              have hn0k : 0 < size - k := by omega
              have GG := hid (GI.out.1 rfl)
              have hkk : kd = 2 ∨ kd = 3 := GG.out.2.1
              have y0 := K8.out.get 0 rfl
              have b0 := BB8.out.get 0 rfl
              dsimp only at y0
              clear hep hd4 hc7 hqb hb8 ho8 hv8 hc8 hob hn8 hbs8 hl8 GI BAT7 RP7 BS7 BS7d K7 K7d b1 b2 z0 z1 z4 y1 MKY SY7 SY7d ST
              rcases hkk with h2 | h3
              · as_aux_lemma =>
                  subst h2
                  have NX2 := hid (readGo_step (b := ⟨2, ep, ba, bb, dat⟩) hn0k HRR.out HGD.out NX.out rfl)
                  have R : RlRel w1 q b g (sc0 s size r) (.int .u32 (ep : Int)) (.int .i64 ((k : Int) + 1)) wc := ⟨k + 1, _, _, sv, rv, ts, ep, rfl, rfl, hlt, by rw [show (sc0 s size r).size - (k + 1) = size - k - 1 from by show size - (k + 1) = _; omega]; exact NX2.out, MID.out⟩
                  have HR2 := hid R
                  clear R
                  go_wp2_with fail
                  refine ⟨HR2.out, ?_⟩
                  simp only [intOf]
                  omega
              · subst h3
                obtain ⟨⟨spl, ok⟩, hsp⟩ : ∃ x, splitL (rd.p ++ dat) = x := ⟨_, rfl⟩
                have HSP := hid hsp
                unfold SplitTo at CSP
                rw [hsp] at CSP SM8 SN8
                clear hsp
                go_upto_region 14 with (go_at_call 96; go_must (refine CSP.out.mono ?_; rintro e w9 ⟨ts2, bv2, rfl, hm2, htx2, hb9⟩; obtain ⟨a9, n9, c9, rfl, hn9, hc9, hcs9⟩ := htx2.rb.cs; have N9 := hid hn9; have C9 := hid hc9; have CS9 := hid hcs9; have TX2 := hid htx2; have M2 := hid hm2; have B9 := hid hb9; clear htx2 hm2 hb9 hn9 hc9 hcs9; dsimp only))
                have M9 := hid (MID.out.below B9.out)
                have q6 := M9.out.own.get 6 rfl
                have hnx : rd.next ≤ k + 1 := M9.out.le
                dsimp only at q6
                clear CSP
                cases ok with
                | false =>
                  as_aux_lemma =>
                    have E0 := hid (readGo_stop (b := ⟨3, ep, ba, bb, dat⟩) hn0k HRR.out HGD.out NX.out (show (3 : Nat) ≠ 2 by omega) (.inl (by show (splitL (rd.p ++ dat)).2 = false; rw [HSP.out])))
                    have FIN := hid (RdSt.fin M9.out B1.out (by have := HBB.out; omega) HBQ.out HQ.out.lt hlt HR.out HAR.out hz ⟨by have h := congrArg Rd.next E0.out; exact h, by have h := congrArg Rd.out E0.out; exact h⟩)
                    have E1 := hid (E0.out)
                    have HFEW := hid (M9.out.few)
                    by_cases hn0 : rd.next = 0
                    · have hn0'' : ((rd.next : Int) == 0) = true := by rw [hn0]; rfl
                      have HN0 := hid hn0
                      clear hn0
                      go_wp2_with fail
                      go_ret
                      refine ⟨FIN.out.1, .inl ⟨rfl, ?_⟩⟩
                      rw [← E1.out]
                      exact HFEW.out.2.1.1 HN0.out
                    · as_aux_lemma =>
                        have hn0'' : ((rd.next : Int) == 0) = false := by rw [beq_eq_false_iff_ne]; omega
                        have HN0 := hid hn0
                        clear hn0
                        go_wp2_with fail
                        go_ret
                        refine ⟨FIN.out.1, .inr ⟨rfl, ?_, FIN.out.2 HN0.out⟩⟩
                        rw [← E1.out]
                        exact fun h => HN0.out (HFEW.out.2.1.2 h)
                | true =>
                  by_cases hn0 : rd.next = 0
                  · have hn0'' : ((rd.next : Int) == 0) = true := by rw [hn0]; rfl
                    by_cases h1 : n9 = 1
                    · as_aux_lemma =>
                        subst h1
                        obtain ⟨t, rfl⟩ : ∃ t, ts2 = [t] := by
                          have := N9.out
                          match ts2, this with
                          | [t], _ => exact ⟨t, rfl⟩
                        obtain ⟨b9, o9, rfl, hcell⟩ := cs_row tsV_length CS9.out (k := 0) (by simp) (by decide)
                        have t0 : w9.cell? ⟨b9, o9, none⟩ = some (.slice t.a t.p.length t.c) := hcell 0 _ rfl
                        have q7 := M9.out.own.get 7 rfl
                        have f7 := M9.out.own.free 7
                        have f6 := M9.out.own.free 6
                        have c0 := M9.out.bat.get 0 rfl
                        have c1 := M9.out.bat.get 1 rfl
                        have c2 := M9.out.bat.get 2 rfl
                        have g0 := M9.out.bat.free 0
                        have g1 := M9.out.bat.free 1
                        have g2 := M9.out.bat.free 2
                        have NX3 := hid (readGo_more (b := ⟨3, ep, ba, bb, dat⟩) hn0k HRR.out HGD.out NX.out (show (3 : Nat) ≠ 2 by omega) (by
                          show ¬ ((splitL (rd.p ++ dat)).2 = false ∨ (rd.next = 0 ∧ (splitL (rd.p ++ dat)).1.length ≠ 1))
                          rw [HSP.out]
                          have h := congrArg List.length M2.out
                          simp at h
                          simp [← h]))
                        have HN0 := hid hn0
                        clear hn0 hcell
                        have hch : Chg [q, b] w9 (((((w9.setCell ⟨q, 7, none⟩ (.slice t.a t.p.length t.c)).setCell ⟨q, 6, none⟩ (.int .i64 ((k : Int) + 1))).setCell ⟨b, 0, none⟩ (.slice none 0 0)).setCell ⟨b, 1, none⟩ (.int .u32 0)).setCell ⟨b, 2, none⟩ (.int .i64 0)) :=
                          ((((chg_setCell w9 q 7 (.slice t.a t.p.length t.c)).trans (chg_setCell _ q 6 (.int .i64 ((k : Int) + 1)))).mono fun x hx => .inl (by rw [List.mem_singleton] at hx; subst hx; simp)).trans ((((chg_setCell _ b 0 (.slice none 0 0)).trans (chg_setCell _ b 1 (.int .u32 0))).trans (chg_setCell _ b 2 (.int .i64 0))).mono fun x hx => .inl (by rw [List.mem_singleton] at hx; subst hx; simp)))
                        have hown := ((((M9.out.own.set 7 (.slice t.a t.p.length t.c)).set 6 (.int .i64 ((k : Int) + 1))).keep (chg_setCell _ b 0 (.slice none 0 0)) (by simpa using QB.out)).keep (chg_setCell _ b 1 (.int .u32 0)) (by simpa using QB.out)).keep (chg_setCell _ b 2 (.int .i64 0)) (by simpa using QB.out)
                        have hbat := (((((M9.out.bat.keep (chg_setCell w9 q 7 (.slice t.a t.p.length t.c)) (by simpa using QB.out.symm)).keep (chg_setCell _ q 6 (.int .i64 ((k : Int) + 1))) (by simpa using QB.out.symm)).set 0 (.slice none 0 0)).set 1 (.int .u32 0)).set 2 (.int .i64 0))
                        have HSH := hid (MID.out.shot B9.out TX2.out MID.out.chg.size hch (Nat.lt_of_lt_of_le HQ.out.lt B1.out.size) K1.out.lt hown hbat HN0.out (by
                          have h1 := SM8.out t.p (by
                            have h := M2.out
                            have h : [t.p] = spl := h
                            rw [← h]; simp)
                          have := LP8.out
                          omega) (by omega))
                        clear hch hown hbat
                        go_wp2_with fail
                        have R : RlRel w1 q b g (sc0 s size r) (.int .u32 (ep : Int)) (.int .i64 ((k : Int) + 1)) (((((w9.setCell ⟨q, 7, none⟩ (.slice t.a t.p.length t.c)).setCell ⟨q, 6, none⟩ (.int .i64 ((k : Int) + 1))).setCell ⟨b, 0, none⟩ (.slice none 0 0)).setCell ⟨b, 1, none⟩ (.int .u32 0)).setCell ⟨b, 2, none⟩ (.int .i64 0)) := ⟨k + 1, _, _, _, rv, ts, 0, rfl, rfl, hlt, by
                          rw [show (sc0 s size r).size - (k + 1) = size - k - 1 from by show size - (k + 1) = _; omega]
                          have h := NX3.out
                          rw [HSP.out] at h
                          have h2 : [t.p] = spl := M2.out
                          rw [← h2] at h
                          exact h, HSH.out⟩
                        refine ⟨R, ?_⟩
                        simp only [intOf]
                        omega
                    · as_aux_lemma =>
                        have h1' : ((n9 : Int) != 1) = true := by rw [bne_iff_ne]; omega
                        have E0 := hid (readGo_stop (b := ⟨3, ep, ba, bb, dat⟩) hn0k HRR.out HGD.out NX.out (show (3 : Nat) ≠ 2 by omega) (.inr ⟨hn0, by
                          show (splitL (rd.p ++ dat)).1.length ≠ 1
                          rw [HSP.out]
                          have h := congrArg List.length M2.out
                          rw [List.length_map] at h
                          have h : ts2.length = spl.length := h
                          have := N9.out
                          show spl.length ≠ 1
                          omega⟩))
                        have FIN := hid (RdSt.fin M9.out B1.out (by have := HBB.out; omega) HBQ.out HQ.out.lt hlt HR.out HAR.out hz ⟨by have h := congrArg Rd.next E0.out; exact h, by have h := congrArg Rd.out E0.out; exact h⟩)
                        have E1 := hid E0.out
                        have HFEW := hid M9.out.few
                        have HN0 := hid hn0
                        clear hn0 h1
                        go_wp2_with fail
                        go_ret
                        refine ⟨FIN.out.1, .inl ⟨rfl, ?_⟩⟩
                        rw [← E1.out]
                        exact HFEW.out.2.1.1 HN0.out
                  · have hn0'' : ((rd.next : Int) == 0) = false := by rw [beq_eq_false_iff_ne]; omega
                    have NX3 := hid (readGo_more (b := ⟨3, ep, ba, bb, dat⟩) hn0k HRR.out HGD.out NX.out (show (3 : Nat) ≠ 2 by omega) (by
                        show ¬ ((splitL (rd.p ++ dat)).2 = false ∨ (rd.next = 0 ∧ (splitL (rd.p ++ dat)).1.length ≠ 1))
                        rw [HSP.out]
                        simp [hn0]))
                    have HN0 := hid hn0
                    have q8 := M9.out.own.get 8 rfl
                    obtain ⟨ra, rn, rc, erv⟩ : ∃ ra rn rc, rv = .slice ra rn rc := by
                      obtain ⟨ra, rn, rc, e, _⟩ := M9.out.tx.rb.cs
                      exact ⟨ra, rn, rc, e⟩
                    subst erv
                    clear hn0
                    have q8f := M9.out.own.free 8
                    have WB9 := hid (show w1.heap.size ≤ w9.heap.size from Nat.le_trans MID.out.chg.size B9.out.size)
                    go_wp2_with (at_builtin; go_must (refine wpList_append_ro tsV_length tsV_one (by decide) (.tmp 143) (.tmp 144) _ rfl rfl w1.heap.size 33 _ 24 info_slb rfl under_slbs _ ts M9.out.tx.rb rfl (l' := ts2) N9.out CS9.out C9.out rfl (by have h1 := M9.out.few.1; have h3 := M9.out.le; have h2 := TX2.out; have := N9.out; have := SN8.out; have h4 := congrArg List.length M2.out; rw [List.length_map] at h4; have h4 : ts2.length = spl.length := h4; have := LP8.out; dsimp only at h1 h3; omega) WB9.out ?_; intro v10 w10 ho10 hb10 hg10 hv10; obtain ⟨a10, n10, c10, rfl, _, _, _⟩ := ho10.cs; have O10 := hid ho10; have G10 := hid hg10; have V10 := hid hv10; have B10 := hid hb10; have K10 := hid (M9.out.own.keep (chg_grown hg10) (fun hm => by have := (M9.out.tx.rb.ownBlock q (by simpa using hm)).1; have := HQ.out.lt; have := B1.out.size; omega)); have BT10 := hid (M9.out.bat.keep (chg_grown hg10) (fun hm => by have := (M9.out.tx.rb.ownBlock b (by simpa using hm)).1; have := K1.out.lt; omega)); have y8 := K10.out.get 8 rfl; have f8 := K10.out.free 8; have y6 := K10.out.get 6 rfl; have f6 := K10.out.free 6; have c0 := BT10.out.get 0 rfl; have c1 := BT10.out.get 1 rfl; have c2 := BT10.out.get 2 rfl; have g0 := BT10.out.free 0; have g1 := BT10.out.free 1; have g2 := BT10.out.free 2; clear ho10 hb10 hg10 hv10))
                    have hch : Chg [q, b] w10 (((((w10.setCell ⟨q, 8, none⟩ (.slice a10 n10 c10)).setCell ⟨q, 6, none⟩ (.int .i64 ((k : Int) + 1))).setCell ⟨b, 0, none⟩ (.slice none 0 0)).setCell ⟨b, 1, none⟩ (.int .u32 0)).setCell ⟨b, 2, none⟩ (.int .i64 0)) :=
                      ((((chg_setCell w10 q 8 (.slice a10 n10 c10)).trans (chg_setCell _ q 6 (.int .i64 ((k : Int) + 1)))).mono fun x hx => .inl (by rw [List.mem_singleton] at hx; subst hx; simp)).trans ((((chg_setCell _ b 0 (.slice none 0 0)).trans (chg_setCell _ b 1 (.int .u32 0))).trans (chg_setCell _ b 2 (.int .i64 0))).mono fun x hx => .inl (by rw [List.mem_singleton] at hx; subst hx; simp)))
                    have hown := ((((K10.out.set 8 (.slice a10 n10 c10)).set 6 (.int .i64 ((k : Int) + 1))).keep (chg_setCell _ b 0 (.slice none 0 0)) (by simpa using QB.out)).keep (chg_setCell _ b 1 (.int .u32 0)) (by simpa using QB.out)).keep (chg_setCell _ b 2 (.int .i64 0)) (by simpa using QB.out)
                    have hbat := (((((BT10.out.keep (chg_setCell w10 q 8 (.slice a10 n10 c10)) (by simpa using QB.out.symm)).keep (chg_setCell _ q 6 (.int .i64 ((k : Int) + 1))) (by simpa using QB.out.symm)).set 0 (.slice none 0 0)).set 1 (.int .u32 0)).set 2 (.int .i64 0))
                    have HMO := hid (MID.out.more B9.out TX2.out MID.out.chg.size (chg_grown G10.out) (fun x hx => by
                        rcases V10.out with h | h
                        · exact .inl (h ▸ hx)
                        · rw [h] at hx; cases hx; exact .inr (Nat.le_refl _)) hch (Nat.lt_of_lt_of_le HQ.out.lt B1.out.size) K1.out.lt O10.out hown hbat HN0.out (fun t ht => by
                        have h1 := SM8.out t.p (by
                          have h : ts2.map TS.p = spl := M2.out
                          rw [← h]; exact List.mem_map_of_mem ht)
                        have := LP8.out
                        omega) (by
                        have h4 := congrArg List.length M2.out
                        rw [List.length_map] at h4
                        have h4 : ts2.length = spl.length := h4
                        have h5 : spl.length ≤ (rd.p ++ dat).length := SN8.out
                        show ts2.length ≤ (rd.p ++ dat).length
                        omega))
                    have R : RlRel w1 q b g (sc0 s size r) (.int .u32 (ep : Int)) (.int .i64 ((k : Int) + 1)) (((((w10.setCell ⟨q, 8, none⟩ (.slice a10 n10 c10)).setCell ⟨q, 6, none⟩ (.int .i64 ((k : Int) + 1))).setCell ⟨b, 0, none⟩ (.slice none 0 0)).setCell ⟨b, 1, none⟩ (.int .u32 0)).setCell ⟨b, 2, none⟩ (.int .i64 0)) := ⟨k + 1, _, _, _, _, _, 0, rfl, rfl, hlt, by
                        rw [show (sc0 s size r).size - (k + 1) = size - k - 1 from by show size - (k + 1) = _; omega]
                        have h := NX3.out
                        rw [HSP.out] at h
                        have h2 : ts2.map TS.p = spl := M2.out
                        rw [← h2] at h
                        exact h, HMO.out⟩
                    refine ⟨R, ?_⟩
                    simp only [intOf]
                    omega
    · have hlt' : ¬ ((k : Int) < (size : Int)) := by omega
      have e1 : rd = readS s size r := by
        have h := GO.out
        rw [show (sc0 s size r).size - k = 0 from by show size - k = 0; omega] at h
        exact h
      have FIN := hid (RdSt.fin ST.out B1.out (by have := HBB.out; omega) HBQ.out HQ.out.lt hk HR.out HAR.out hz ⟨congrArg Rd.next e1, congrArg Rd.out e1⟩)
      have E1 := hid e1
      clear e1
      have q6 := ST.out.own.get 6 rfl
      have hnx := ST.out.le
      have HFEW := hid ST.out.few
      dsimp only at q6
      by_cases hn0 : rd.next = 0
      · have hn0' : (rd.next : Int) = 0 := by omega
        have hn0'' : ((rd.next : Int) == 0) = true := by rw [hn0]; rfl
        clear hn0'
        go_wp2_with fail
        go_ret
        refine ⟨FIN.out.1, .inl ⟨rfl, ?_⟩⟩
        rw [← E1.out]
        exact HFEW.out.2.1.1 hn0
      · have hn0'' : ((rd.next : Int) == 0) = false := by rw [beq_eq_false_iff_ne]; omega
        have HN0 := hid hn0
        clear hn0
        go_wp2_with fail
        go_ret
        refine ⟨FIN.out.1, .inr ⟨rfl, ?_, ?_⟩⟩
        · rw [← E1.out]
          exact fun h => HN0.out (HFEW.out.2.1.2 h)
        · exact FIN.out.2 HN0.out
end Go.Proofs.YtoapibbbooongaaDoor
