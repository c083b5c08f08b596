/- The walks of layer 8: a blob at its place. -/
import Derived.Test.YtoapibbbooongaaDoorImgB
import Derived.Test.YtoapibbbooongaaDoorBlkC
import Derived.StillTailTactics
import Derived.Deep.RegionHeld3
import Derived.Deep.QuietTactic
import Derived.BigQuiet
namespace Go.Proofs.YtoapibbbooongaaDoor
open Go.RowKit Go.Quad _root_.Quad _root_.Quad.Slab

theorem below_setNew {n : Nat} {w W : World} {b i : Nat} {v : Value} (h : Below n w W) (hb : n ≤ b) (hs : n ≤ w.heap.size := by omega) : Below n w (W.setCell ⟨b, i, none⟩ v) := h.trans ((chg_setCell W b i v).below (Nat.le_trans hs h.size) fun k hk => by rw [List.mem_singleton] at hk; subst hk; exact hb)
theorem BS.room0 {w : World} {a : Option Addr} {c c' : Nat} {l : List UInt8} (h : BS w a c l) (hc : c' ≤ c) : BS w a c' [] := ⟨Nat.zero_le _, Nat.le_trans hc (CS.max h), fun e => by have := CS.none h e; omega, .inl rfl⟩
theorem BS.tail {w : World} {b off c : Nat} {y : UInt8} {l : List UInt8} (h : BS w (some ⟨b, off, none⟩) c (y :: l)) : BS w (some ⟨b, off + 1, none⟩) (c - 1) l := by
  have h1 := CS.fit h
  simp only [List.map_cons, List.length_cons, List.length_map] at h1
  refine ⟨by simp; omega, Nat.le_trans (Nat.sub_le _ _) (CS.max h), fun e => (by cases e), ?_⟩
  rcases CS.at' h with h | ⟨b', off', e, hh⟩
  · simp at h
  · cases e
    exact .inr ⟨b, off + 1, rfl, fun i v hv => by
      have := hh (i + 1) v hv
      rwa [show off + (i + 1) = off + 1 + i from by omega] at this⟩
def blkCs (h : BlkD) (a : Option Addr) (n c : Nat) : List Value := [.int .u8 (h.kind : Int), .int .u32 (h.epoch : Int), .int .u32 (h.a : Int), .int .u32 (h.b : Int), .slice a n c]
def BlMid (w : World) (r : BlkD × Nat) (v10 v11 : Value) (w' : World) : Prop := ∃ q a n p, v10 = .pointer (some ⟨q, 0, none⟩) ∧ v11 = .int .i64 (r.2 : Int) ∧ Blk w' q (blkCs r.1 a n p) 96 ∧ r.1.data.length = n ∧ BS w' a p r.1.data ∧ (∀ x, a = some x → w.heap.size ≤ x.block ∧ x.block < w'.heap.size) ∧ w.heap.size ≤ q ∧ Below w.heap.size w w'
def BlobTo (w : World) (r : Option (List UInt8)) (e : Ending) (w' : World) : Prop :=
  Below w.heap.size w w' ∧ match r with
  | none => e = .returned (.tuple #[.slice none 0 0, .bool false])
  | some p => ∃ a n c, e = .returned (.tuple #[.slice a n c, .bool true]) ∧ p.length = n ∧ BS w' a c p ∧ ∀ x, a = some x → w.heap.size ≤ x.block ∧ x.block < w'.heap.size
theorem blob_no {w w' : World} {r : Option (List UInt8)} (hb : Below w.heap.size w w') (hr : r = none) : BlobTo w r (.returned (.tuple #[.slice none 0 0, .bool false])) w' := by
  subst hr; exact ⟨hb, rfl⟩
set_option maxRecDepth 100000 in
set_option maxHeartbeats 4000000 in
theorem blob_calls (w : World) (B g d : Nat) (wv : Value) (c mb fg : Nat) (I : Im) (h : BlkD) (ha : Option Addr) (hn hc : Nat) (at' rank : Nat) (hS : IsSlab w B g d wv I.sl) (hI : Blk w c (stoV g mb fg I) 94)
    (hfr : I.from' + I.used.length ≤ 4096) (hat : at' < 65536) (hrk : rank ≤ 16) (hq : Laid w) :
    Calls Tryd.prog 86 #[.pointer (some ⟨c, 0, none⟩), .agg (blkCs h ha hn hc).toArray, .int .i64 (at' : Int), .int .i64 (rank : Int)] w (BlobTo w (blobI (seeG I.sl I.from') I.used.length h at' rank)) := by
  have c0 := hI.get 0 rfl
  have c1 := hI.get 1 rfl
  have c2 := hI.get 2 rfl
  have cc := hI.lt
  have HS := hid hS
  have HI := hid hI
  have HL := hid hq
  have hat' : (at' : Int) ≤ 65535 := by omega
  have hrk' : (rank : Int) ≤ 16 := by omega
  have hf1 : (I.from' : Int) ≤ 4096 := by omega
  have hf2 : ((I.from' + I.used.length : Nat) : Int) ≤ 4096 := by omega
  have hb0 := below_alloc w (.cells (blkCs h ha hn hc).toArray 96)
  have k0 := blk_alloc w (blkCs h ha hn hc) 96
  have I1 := hI.below hb0
  have c0 := I1.get 0 rfl
  have c1 := I1.get 1 rfl
  have c2 := I1.get 2 rfl
  have B0 := hid hb0
  have K0 := hid k0
  clear hS hI hq hb0 k0 I1
  obtain ⟨R0, hR0⟩ : ∃ R0, blobI (seeG I.sl I.from') I.used.length h at' rank = R0 := ⟨_, rfl⟩
  rw [hR0]
  have HR0 := hid hR0
  clear hR0
  go_enter Tryd.func86, Tryd.ntmps86
  go_upto_region 1 with fail
  generalize (w.alloc (.cells (blkCs h ha hn hc).toArray 96)) = w1 at B0 K0 c0 c1 c2 ⊢
  obtain ⟨tv, htv⟩ : ∃ tv : Int, ((I.from' + I.used.length : Nat) : Int) = tv := ⟨_, rfl⟩
  rw [htv] at c2 hf2
  have hwr : wrap64 (tv - (I.from' : Int)) = (I.used.length : Int) := by
    have e : tv - (I.from' : Int) = (I.used.length : Int) := by omega
    rw [e]
    unfold wrap64
    omega
  have HW := hid hwr
  clear hwr htv
  by_cases hin : I.used.length ≤ at'
  · have hcmp : (I.used.length : Int) ≤ (at' : Int) := by omega
    go_quiet (fail)
    rw [HW.out]
    have B1 := hid (B0.out.trans ((below_drewN (Below.refl w1.heap.size w1) nq).mono B0.out.size))
    generalize w1.drewN nq = w2 at B1 ⊢
    go_wp2_with fail
    go_ret2
    exact blob_no B1.out (by rw [← HR0.out]; unfold blobI; rw [if_pos hin])
  · have hcmp : ¬ ((I.used.length : Int) ≤ (at' : Int)) := by omega
    go_quiet (fail)
    rw [HW.out]
    have bd := below_drewN (Below.refl w1.heap.size w1) nq
    have B1 := hid (B0.out.trans (bd.mono B0.out.size))
    have I1 := (HI.out.below B0.out).below bd
    have c0 := I1.get 0 rfl
    have c1 := I1.get 1 rfl
    have K1 := hid (K0.out.below bd)
    clear bd I1
    generalize w1.drewN nq = w2 at B1 K1 c0 c1 ⊢
    have bd := below_drew w2
    go_upto_region 3 with fail
    have MKS := hid fun (W : World) (hW : Below w2.heap.size w2 W) => (show (W.cell? ⟨c, 0, none⟩ = some (.pointer (some ⟨g, 0, none⟩)) ∧ W.cell? ⟨c, 1, none⟩ = some (.int .i64 (I.from' : Int)) ∧ Below w2.heap.size w2 W) from ⟨((HI.out.below B1.out).below hW).get 0 rfl, ((HI.out.below B1.out).below hW).get 1 rfl, hW⟩)
    have WR := hid (show IntKind.i64.wrap ((I.from' : Int) + (at' : Int)) = ((I.from' + at' : Nat) : Int) from by rw [IntKind.wrap_i64]; omega)
    have HG := hid fun (W : World) (i : Int) (hi : i = ((I.from' + at' : Nat) : Int)) (hW : Below w2.heap.size w2 W) => (show Calls Tryd.prog 47 #[.pointer (some ⟨g, 0, none⟩), .int .i64 i] W (BGetTo W (getB I.sl ((I.from' + at' : Nat) : Int))) from by subst hi; exact bget_calls W B g d wv I.sl ((I.from' + at' : Nat) : Int) ((HS.out.below B1.out).below hW) (by omega) ((HL.out.below B1.out HL.out.1).below hW (HL.out.below B1.out HL.out.1).1))
    clear bd c0 c1 B0 K0 HW
    have HR1 := hid (show blobI (seeG I.sl I.from') I.used.length h at' rank = if blobOk h rank (getB I.sl ((I.from' + at' : Nat) : Int)) then some ((getB I.sl ((I.from' + at' : Nat) : Int)).1.data.drop 1) else none from by unfold blobI; rw [if_neg hin]; rfl)
    obtain ⟨rr, hrr⟩ : ∃ rr, getB I.sl ((I.from' + at' : Nat) : Int) = rr := ⟨_, rfl⟩
    rw [hrr] at HG HR1
    clear hrr
    obtain ⟨⟨kd, ep, ba, bb, dat⟩, er⟩ := rr
    obtain ⟨hkd, hep, hha, hhb, hdat⟩ := h
    unfold blkCs at K1
    dsimp only at HG K1 HR1 ⊢
    have I2 := (HI.out.below B1.out)
    have c0 := I2.get 0 rfl
    have c1 := I2.get 1 rfl
    clear I2
    have SB := hid fun (W : World) (h : W.cell? ⟨c, 0, none⟩ = some (.pointer (some ⟨g, 0, none⟩)) ∧ W.cell? ⟨c, 1, none⟩ = some (.int .i64 (I.from' : Int)) ∧ Below w2.heap.size w2 W) => h.2.2
    go_cut [10, 11] from 12 to 36 (fun v10 v11 w' => BlMid w2 (⟨kd, ep, ba, bb, dat⟩, er) v10 v11 w')
    case first =>
      go_region_held3 (fun W => (W.cell? ⟨c, 0, none⟩ = some (.pointer (some ⟨g, 0, none⟩)) ∧ W.cell? ⟨c, 1, none⟩ = some (.int .i64 (I.from' : Int)) ∧ Below w2.heap.size w2 W))
        ((refine MKS.out _ ?_; first | with_reducible exact below_drew _ | with_reducible exact (SB.out _ (by assumption)).trans ((below_alloc _ _).mono (SB.out _ (by assumption)).size) | with_reducible exact HB.out | with_reducible exact HB.out.trans ((below_alloc _ _).mono HB.out.size) | with_reducible exact Below.refl _ _ | with_reducible exact below_setNew (below_setNew (below_setNew (below_setNew (below_setNew HB.out (Nat.le_refl _)) (Nat.le_refl _)) (Nat.le_refl _)) (Nat.le_refl _)) (Nat.le_refl _)))
        ((go_at_call 47; refine (HG.out _ _ WR.out (SB.out _ (by assumption))).mono ?_; rintro e w4 ⟨a, n, p, rfl, hn, hO, hb⟩; dsimp only at hn hO ⊢; have HN := hid hn; have HO := hid (show BS w4 a p dat ∧ (∀ x, a = some x → w2.heap.size ≤ x.block ∧ x.block < w4.heap.size) from (by obtain ⟨a', c', e', h1, h2⟩ := hO.bs; cases e'; exact ⟨h1, fun x hx => ⟨by have := (h2 x hx).2.2.1; simp at this; omega, (h2 x hx).2.2.2⟩⟩)); have HB := hid ((SB.out _ (by assumption)).trans (hb.mono (SB.out _ (by assumption)).size)); (first | (have NQ := hid (show ∀ x, a = some x → x.block ≠ w2.heap.size from (by obtain ⟨a', c', e', h1, h2⟩ := hO.bs; cases e'; exact fun x hx => by have := (h2 x hx).2.2.1; simp at this; omega)); have K4 := hid (show Blk w4 w2.heap.size [.int .u8 0, .int .u32 0, .int .u32 0, .int .u32 0, .slice none 0 0] 96 from (blk_alloc w2.drew [.int .u8 0, .int .u32 0, .int .u32 0, .int .u32 0, .slice none 0 0] 96).below hb); have d0 := K4.out.get 0 rfl; have d1 := K4.out.get 1 rfl; have d2 := K4.out.get 2 rfl; have d3 := K4.out.get 3 rfl; have d4 := K4.out.get 4 rfl; have f0 := K4.out.free 0; have f1 := K4.out.free 1; have f2 := K4.out.free 2; have f3 := K4.out.free 3; have f4 := K4.out.free 4) | skip); clear hn hO hb))
      · have R : BlMid w2 (⟨kd, ep, ba, bb, dat⟩, er) (.pointer (some ⟨w4.heap.size, 0, none⟩)) (.int .i64 (er : Int)) (w4.alloc (.cells (blkCs ⟨kd, ep, ba, bb, dat⟩ a n p).toArray 96)) := by
          refine ⟨w4.heap.size, a, n, p, rfl, rfl, blk_alloc w4 _ _, HN.out, bs_keep HO.out.1 (Chg.of_below [] (below_alloc _ _)) (.inr (by simp)), fun x hx => ⟨(HO.out.2 x hx).1, by have := (HO.out.2 x hx).2; simp; omega⟩, HB.out.size, HB.out.trans ((below_alloc _ _).mono HB.out.size)⟩
        have HR := hid R
        clear R
        go_wp2_with fail
        go_meet
        exact HR.out
      · obtain ⟨w5, hw5⟩ : ∃ w5, ((((w4.setCell ⟨w2.heap.size, 0, none⟩ (.int .u8 (kd : Int))).setCell ⟨w2.heap.size, 1, none⟩ (.int .u32 (ep : Int))).setCell ⟨w2.heap.size, 2, none⟩ (.int .u32 (ba : Int))).setCell ⟨w2.heap.size, 3, none⟩ (.int .u32 (bb : Int))).setCell ⟨w2.heap.size, 4, none⟩ (.slice a n p) = w5 := ⟨_, rfl⟩
        have R : BlMid w2 (⟨kd, ep, ba, bb, dat⟩, er) (.pointer (some ⟨w2.heap.size, 0, none⟩)) (.int .i64 (er : Int)) w5 := by
          have s1 := K4.out.set 0 (.int .u8 (kd : Int))
          have s2 := s1.set 1 (.int .u32 (ep : Int))
          have s3 := s2.set 2 (.int .u32 (ba : Int))
          have s4 := s3.set 3 (.int .u32 (bb : Int))
          have s5 := s4.set 4 (.slice a n p)
          have hc := ((((chg_setCell w4 w2.heap.size 0 (.int .u8 (kd : Int))).trans (chg_setCell _ w2.heap.size 1 (.int .u32 (ep : Int)))).trans (chg_setCell _ w2.heap.size 2 (.int .u32 (ba : Int)))).trans (chg_setCell _ w2.heap.size 3 (.int .u32 (bb : Int)))).trans (chg_setCell _ w2.heap.size 4 (.slice a n p))
          rw [hw5] at s5 hc
          exact ⟨w2.heap.size, a, n, p, rfl, rfl, s5, HN.out, bs_keep HO.out.1 hc (.inr fun x hx hm => NQ.out x hx (by simpa using hm)), fun x hx => ⟨(HO.out.2 x hx).1, Nat.lt_of_lt_of_le (HO.out.2 x hx).2 hc.size⟩, Nat.le_refl _, HB.out.trans (hc.below HB.out.size (by simp))⟩
        rw [hw5]
        have HR := hid R
        clear R
        go_wp2_with fail
        go_meet
        exact HR.out
    case rest =>
      obtain ⟨q, a, n, p, rfl, rfl, hB, hn, hbs, hof, hq, hbl⟩ := hcut
      dsimp only at hB hn hbs ⊢
      have k0 := hB.get 0 rfl
      have k1 := hB.get 1 rfl
      have k2 := hB.get 2 rfl
      have k3 := hB.get 3 rfl
      have k4 := hB.get 4 rfl
      have K1c := K1.out.below hbl
      have j1 := K1c.get 1 rfl
      have j2 := K1c.get 2 rfl
      have j3 := K1c.get 3 rfl
      have BS4 := hid hbs
      have OF := hid hof
      have BT := hid (B1.out.trans (hbl.mono B1.out.size))
      have HN := hid hn
      clear hB hbs hof hbl K1c hq hn
      by_cases e0 : er = 0
      case neg =>
        have e0' : ¬ ((er : Int) = 0) := by omega
        go_wp2_with fail
        go_ret2
        exact blob_no BT.out (by rw [← HR0.out, HR1.out, if_neg (by simp [blobOk, e0])])
      subst e0
      by_cases e1 : kd = 5
      case neg =>
        have e0' : ¬ ((kd : Int) = 5) := by omega
        go_wp2_with fail
        go_ret2
        exact blob_no BT.out (by rw [← HR0.out, HR1.out, if_neg (by simp [blobOk, e1])])
      subst e1
      by_cases e2 : ep = hep
      case neg =>
        have e0' : ¬ ((ep : Int) = (hep : Int)) := by omega
        go_wp2_with fail
        go_ret2
        exact blob_no BT.out (by rw [← HR0.out, HR1.out, if_neg (by simp [blobOk, e2])])
      subst e2
      by_cases e3 : ba = hha
      case neg =>
        have e0' : ¬ ((ba : Int) = (hha : Int)) := by omega
        go_wp2_with fail
        go_ret2
        exact blob_no BT.out (by rw [← HR0.out, HR1.out, if_neg (by simp [blobOk, e3])])
      subst e3
      by_cases e4 : bb = hhb
      case neg =>
        have e0' : ¬ ((bb : Int) = (hhb : Int)) := by omega
        go_wp2_with fail
        go_ret2
        exact blob_no BT.out (by rw [← HR0.out, HR1.out, if_neg (by simp [blobOk, e4])])
      subst e4
      by_cases e5 : n = 0
      case pos =>
        subst e5
        go_wp2_with fail
        go_ret2
        exact blob_no BT.out (by rw [← HR0.out, HR1.out, if_neg (by simp [blobOk, List.length_eq_zero_iff.1 HN.out])])
      obtain ⟨m, rfl⟩ : ∃ m, n = m + 1 := ⟨n - 1, by omega⟩
      obtain ⟨y, tl, rfl⟩ : ∃ y tl, dat = y :: tl := by
        cases dat with
        | nil => have := HN.out; simp at this
        | cons y tl => exact ⟨y, tl, rfl⟩
      obtain ⟨b, off, rfl, hcl⟩ : ∃ b off, a = some ⟨b, off, none⟩ ∧ wc.cell? ⟨b, off, none⟩ = some (.int .u8 (y.toNat : Int)) := by
        rcases CS.at' BS4.out with h | ⟨b, off, e, hh⟩
        · simp at h
        · exact ⟨b, off, e, hh 0 _ rfl⟩
      have hmp : m + 1 ≤ p := by have := CS.fit BS4.out; have := HN.out; simp at *; omega
      have hmx := hid (CS.max BS4.out)
      obtain ⟨yv, hyv⟩ : ∃ yv, y.toNat = yv := ⟨_, rfl⟩
      have hyl : (yv : Int) ≤ 255 := by have := y.toNat_lt; omega
      rw [hyv] at hcl
      have HY := hid hyv
      clear hyv
      by_cases e6 : yv = rank
      case neg =>
        have e0' : ((yv : Int) != (rank : Int)) = true := by simp; omega
        go_wp2_with fail
        go_ret2
        exact blob_no BT.out (by rw [← HR0.out, HR1.out, if_neg (by simp [blobOk, HY.out, e6])])
      subst e6
      have hR : R0 = some tl := by rw [← HR0.out, HR1.out, if_pos (by simp [blobOk, HY.out])]; rfl
      have htl : tl.length = m := by have := HN.out; simpa using this
      have hcs : BS wc (if p = 1 then some ⟨b, off, none⟩ else some ⟨b, off + 1, none⟩) (p - 1) tl := by
        split
        · rename_i h1
          obtain rfl : tl = [] := List.length_eq_zero_iff.1 (by omega)
          exact BS.room0 BS4.out (by omega)
        · exact BS.tail BS4.out
      have HRF := hid (And.intro hR (And.intro htl hcs))
      clear hR htl hcs
      by_cases h1 : p = 1
      · have hcs := HRF.out.2.2
        rw [if_pos h1] at hcs
        have HCS := hid hcs
        clear hcs
        subst h1
        go_wp2_with fail
        go_ret2
        rw [HRF.out.1]
        exact ⟨BT.out, _, _, _, rfl, (by have := HRF.out.2.1; omega), HCS.out, fun x hx => by cases hx; have := OF.out _ rfl; exact ⟨Nat.le_trans B1.out.size this.1, this.2⟩⟩
      · have hcs := HRF.out.2.2
        rw [if_neg h1] at hcs
        have HCS := hid hcs
        clear hcs
        go_wp2_with fail
        go_ret2
        rw [HRF.out.1]
        exact ⟨BT.out, _, _, _, rfl, HRF.out.2.1, HCS.out, fun x hx => by cases hx; have := OF.out _ rfl; exact ⟨Nat.le_trans B1.out.size this.1, this.2⟩⟩
end Go.Proofs.YtoapibbbooongaaDoor
