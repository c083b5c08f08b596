/- The walks of layer 8's law: alike. -/
import Derived.Test.YtoapibbbooongaaDoorImgRs
import Derived.Test.YtoapibbbooongaaDoorImgSm
import Derived.Deep.RegionHeldLaw
import Derived.HandedShaped
namespace Go.Proofs.YtoapibbbooongaaDoor
open Go.RowKit Go.Quad _root_.Quad _root_.Quad.Slab

/-- an image of its own whose bytes may be turned -/
structure Flip (n3 : Nat) (q : Nat) (x : Img) (ts : List TS) (bv : Value) (wr : World) : Prop where
  blk : Blk wr q (imgV x bv) 36
  row : RO tsV 1 wr n3 33 bv ts
  tx : ∀ t ∈ ts, t.p.length ≤ t.c ∧ (t.p ≠ [] → ∃ b o, t.a = some ⟨b, o, none⟩ ∧ n3 ≤ b ∧ bv.ownBlock ≠ some b ∧ b ≠ q ∧ (∃ cur, Blk wr b cur 5) ∧ ∀ i, i < t.p.length → ∃ m, wr.cell? ⟨b, o + i, none⟩ = some (.int .u8 m))
theorem Flip.of {w3 w w' : World} {q : Nat} {x : Img} {ts : List TS} {bv : Value} (ht : Texts w3 w ts bv) (hl : Loose w ts) (hq : w.heap.size ≤ q) (hb : Below w.heap.size w w') (hB : Blk w' q (imgV x bv) 36) : Flip w3.heap.size q x ts bv w' := by
  refine ⟨hB, ht.rb.chg (Chg.of_below [] hb) (by simp), fun t h => ?_⟩
  obtain ⟨h1, h2⟩ := ht.tx t h
  refine ⟨h1.fit', fun hp => ?_⟩
  obtain ⟨b, o, e, hh⟩ := CS.at h1 (by simp; exact List.length_pos_iff.2 hp)
  have h3 := h2 _ e
  obtain ⟨cur, hk⟩ := hl t h _ e
  dsimp only at h3 hk
  refine ⟨b, o, e, h3.1, h3.2.2, by omega, ⟨cur, hk.below hb⟩, fun i hi => ⟨((t.p[i]).toNat : Int), ?_⟩⟩
  have h4 := hh i (u8v t.p[i]) (by rw [List.getElem?_map, List.getElem?_eq_getElem hi]; rfl)
  show _ = some (Value.int .u8 ((t.p[i]).toNat : Int))
  refine Eq.trans ?_ h4
  exact hb.cell (World.block_lt_of_cell? w ⟨b, o + i, none⟩ h4)
theorem Flip.poke {n3 q : Nat} {x : Img} {ts : List TS} {bv : Value} {wr : World} (h : Flip n3 q x ts bv wr) {b : Nat} (o : Nat) (m : Int) (hr : bv.ownBlock ≠ some b) (hq : b ≠ q) (h0 : ∃ m, wr.cell? ⟨b, o, none⟩ = some (.int .u8 m)) : Flip n3 q x ts bv (wr.setCell ⟨b, o, none⟩ (.int .u8 m)) := by
  have hc := chg_setCell wr b o (.int .u8 m)
  refine ⟨h.blk.keep hc (fun hm => by rw [List.mem_singleton] at hm; exact hq hm.symm), h.row.chg hc (fun k hk hm => by rw [List.mem_singleton] at hm; subst hm; exact hr hk), fun t ht => ⟨(h.tx t ht).1, fun hp => ?_⟩⟩
  obtain ⟨b', o', e, h1, h2, h3, ⟨cur, h4⟩, h5⟩ := (h.tx t ht).2 hp
  refine ⟨b', o', e, h1, h2, h3, ?_, fun i hi => Go.someInt_setCell (h5 i hi) _ m⟩
  by_cases hb : b' = b
  · subst hb; exact ⟨_, h4.set o (.int .u8 m)⟩
  · exact ⟨cur, h4.keep hc (fun hm => by rw [List.mem_singleton] at hm; exact hb hm)⟩
theorem Flip.cell {n3 q : Nat} {x : Img} {ts : List TS} {a : Option Addr} {n c : Nat} {wr : World} (h : Flip n3 q x ts (.slice a n c) wr) {k : Nat} (hk : k < ts.length) : ∃ b o, a = some ⟨b, o, none⟩ ∧ wr.cell? ⟨b, o + k, none⟩ = some (.slice ts[k].a ts[k].p.length ts[k].c) := by
  obtain ⟨_, _, _, e, _, _, h3⟩ := h.row.cs
  cases e
  obtain ⟨b, o, e, hc⟩ := cs_row tsV_length h3 hk (by decide)
  refine ⟨b, o, e, ?_⟩
  have := hc 0 _ rfl
  simpa using this
/-- so many images are alike -/
def AkRel (w2 : World) (n : Nat) (iv : Value) (wr : World) : Prop := ∃ k : Nat, iv = .int .i64 (k : Int) ∧ k ≤ n ∧ Below w2.heap.size w2 wr
def AbRel (w2 : World) (n3 q : Nat) (x : Img) (ts : List TS) (bv : Value) (iv : Value) (wr : World) : Prop := ∃ k : Nat, iv = .int .i64 (k : Int) ∧ k ≤ ts.length ∧ Below w2.heap.size w2 wr ∧ Flip n3 q x ts bv wr
def AcRel (w2 : World) (n3 q : Nat) (x : Img) (ts : List TS) (bv : Value) (N : Nat) (iv : Value) (wr : World) : Prop := ∃ k : Nat, iv = .int .i64 (k : Int) ∧ k ≤ N ∧ Below w2.heap.size w2 wr ∧ Flip n3 q x ts bv wr
set_option maxRecDepth 100000 in
set_option maxHeartbeats 20000000 in
theorem ialike_calls (w0 w : World) (X : List Nat) (g c : Nat) (I : Im) (h : LX w0 X g c I w) (Q : Nat → Prop) (B g2 c2 d2 : Nat) (lv : Value) (L : List RI) (I2 : Im) (hx : XSto w Q B g2 c2 d2 lv L I2) (hL : I2.L = I.L) (hu : I2.used = I.used)
    (hsm : ∀ x ∈ I.L, ∀ b ∈ x.blobs, b.length ≤ 100000) (h0 : findI I.L 0 = none) (hn : I.L.length ≤ 4096) :
    Calls Tryd.prog 20 #[.pointer (some ⟨c, 0, none⟩), .pointer (some ⟨c2, 0, none⟩)] w fun e w' => e = .returned (.bool true) ∧ Below w.heap.size w w' := by
  have H := hid h
  have HX := hid hx
  have HU := hid hu
  obtain ⟨n, hnn⟩ : ∃ n, I.L.length = n := ⟨_, rfl⟩
  rw [hnn] at hn
  have HN := hid hnn
  have HNL := hid (show L.length = n from by rw [hx.len, hL]; exact hnn)
  have hn' : (n : Int) ≤ 4096 := by omega
  have CLI := hid (show Calls Tryd.prog 23 #[.pointer (some ⟨c, 0, none⟩)] w (ListTo w I.L) from lx_list w0 w X g c I h (by omega))
  have CLE := hid fun (W : World) (hW : Below w.heap.size w W) => lx_left w0 W X g c I (h.below hW)
  have CRL := hid fun (W : World) (hW : Below w.heap.size w W) => (show Calls Tryd.prog 62 #[.pointer (some ⟨c2, 0, none⟩)] W fun e w' => e = .returned (.int .i64 (leftM I.used : Int)) ∧ W = w' from by rw [← HU.out]; exact rsleft_calls W Q B g2 c2 d2 lv L I2 (hx.below hW))
  have CG := hid fun (W : World) (hW : Below w.heap.size w W) (job : Nat) (hj : job < 4294967296) => lx_get2 w0 W X g c I (h.below hW) hsm job hj
  have H0 := hid h0
  have HSM := hid hsm
  have HML := hid (show L.map RI.x = I.L from by rw [hx.L, hL])
  have HSO := hid (show I.L.Pairwise (fun a b => a.job < b.job) from by rw [← hL]; exact hx.sorted)
  have hlf : (leftM I.used : Int) ≤ 4096 := by have := left_le I.used; have := hx.few; rw [hu] at this; omega
  obtain ⟨la, ln, lc, rfl, hln, hlc, _⟩ := hx.row.cs
  obtain rfl : n = ln := by rw [← HNL.out]; exact hln
  have hlc' : (n : Int) ≤ (lc : Int) := by omega
  have HCS := hid fun {W : World} (h : RO riV 5 W B 53 (.slice la n lc) L) => (show CS W la lc 5 (L.flatMap riV) from by obtain ⟨a, n, c, e, _, _, h3⟩ := h.cs; cases e; exact h3)
  clear h hx hL hu hsm h0 hnn hn hln hlc
  go_enter Tryd.func20, Tryd.ntmps20
  go_upto_region 2 with (go_at_call 23; go_must (refine CLI.out.mono ?_; rintro e w2 ⟨a2, c2', rfl, hro2, hb2⟩; have RO2 := hid hro2; have B2 := hid hb2; clear hro2 hb2; rw [HN.out] at RO2; rw [HN.out]))
  have HX2 := hid (HX.out.below B2.out)
  have e3 := HX2.out.own.get 3 rfl
  have hac : (n : Int) ≤ (c2' : Int) := by obtain ⟨_, _, _, e, h1, h2, _⟩ := RO2.out.cs; cases e; omega
  have R0 := hid (show AkRel w2 n (.int .i64 0) w2 from ⟨0, rfl, Nat.zero_le _, Below.refl _ _⟩)
  go_wp2_with (first
    | (go_at_call 27; go_must (refine (CLE.out w2 B2.out).mono ?_; rintro e w3 ⟨rfl, rfl⟩; dsimp only))
    | (go_at_call 62; go_must (refine (CRL.out w2 B2.out).mono ?_; rintro e w3 ⟨rfl, rfl⟩; dsimp only)))
  go_loopw [8, 9, 10, 11, 12, 13, 57] (fun _ _ _ _ _ _ iv wr => AkRel w2 n iv wr) (fun _ _ _ _ _ _ iv _ => n - (intOf iv).toNat)
  case atStart => exact R0.out
  case round =>
    clear R0 e3 CLI CLE CRL
    obtain ⟨w4, rfl⟩ : ∃ w4 : World, w4 = wr := ⟨_, rfl⟩
    obtain ⟨k, rfl, hk, hb4⟩ := hrel
    have BR := hid hb4
    have BW := hid (B2.out.trans (hb4.mono B2.out.size))
    clear hb4
    by_cases hlt : k < n
    · have hlt' : (k : Int) < (n : Int) := by omega
      have hkl : k < L.length := by rw [HNL.out]; exact hlt
      have hkI : k < I.L.length := by rw [HN.out]; exact hlt
      obtain ⟨b, off, rfl, hcell⟩ := cs_row riV_length (HCS.out (HX.out.below BW.out).row) hkl (by decide)
      have d0 := hcell 0 _ rfl
      have d1 := hcell 1 _ rfl
      have d2 := hcell 2 _ rfl
      have d3 := hcell 3 _ rfl
      have d4 := hcell 4 _ rfl
      obtain ⟨r, hr⟩ : ∃ r, L[k] = r := ⟨_, rfl⟩
      rw [hr] at d0 d1 d2 d3 d4
      have HRM := hid (show r ∈ L from hr ▸ List.getElem_mem hkl)
      have hxe : I.L[k] = r.x := by
        have : I.L[k] = (L.map RI.x)[k]'(by rw [List.length_map]; exact hkl) := by simp only [HML.out]
        rw [this, List.getElem_map, hr]
      have hfi := find_key HSO.out (List.getElem_mem hkI)
      rw [hxe] at hfi
      have HFI := hid hfi
      have hin := HX.out.jobs r HRM.out
      have HIN := hid hin
      have hl2 : ∃ b2 o2, a2 = some ⟨b2, o2, none⟩ ∧ w4.cell? ⟨b2, o2 + k, none⟩ = some (.int .u32 (r.x.job : Int)) ∧ b2 < w4.heap.size := by
        obtain ⟨_, _, _, e, _, _, h3⟩ := RO2.out.cs
        cases e
        obtain ⟨b2, o2, e2, hc2⟩ := cs_row jobV'_length (h3.below BR.out) hkI (by decide)
        have h4 := hc2 0 _ rfl
        rw [hxe] at h4
        have h5 : w4.cell? ⟨b2, o2 + k, none⟩ = some (.int .u32 (r.x.job : Int)) := by simpa using h4
        exact ⟨b2, o2, e2, h5, World.block_lt_of_cell? w4 _ h5⟩
      obtain ⟨bl, ol, rfl, hl4, hbl4⟩ := hl2
      have HL4 := hid hl4
      have HBL4 := hid hbl4
      rw [Nat.add_zero] at d0
      clear hcell hr hxe hfi hin hl4 hbl4
      obtain ⟨x, ba, bc, aa, ac⟩ := r
      dsimp only at d0 d1 d2 d3 d4 HFI HIN HL4
      go_upto_region 10 with fail
      obtain ⟨q5, hq5⟩ : ∃ q5, w4.heap.size = q5 := ⟨_, rfl⟩
      have b5 := below_alloc w4 (.cells #[.int .u32 (x.job : Int), .int .u32 (x.ver : Int), .int .i64 x.credit, .slice ba x.blobs.length bc, .slice aa x.at'.length ac] 53)
      have k5 := blk_alloc w4 [.int .u32 (x.job : Int), .int .u32 (x.ver : Int), .int .i64 x.credit, .slice ba x.blobs.length bc, .slice aa x.at'.length ac] 53
      rw [hq5] at k5 ⊢
      have B5 := hid b5
      have K5 := hid k5
      have z0 := k5.get 0 rfl
      clear d0 d1 d2 d3 d4 b5 k5 hq5
      generalize (w4.alloc (.cells #[.int .u32 (x.job : Int), .int .u32 (x.ver : Int), .int .i64 x.credit, .slice ba x.blobs.length bc, .slice aa x.at'.length ac] 53)) = w5 at B5 K5 z0 ⊢
      have BW5 := hid (BW.out.trans (B5.out.mono BW.out.size))
      have CG5 := hid (show Calls Tryd.prog 15 #[.pointer (some ⟨c, 0, none⟩), .int .u32 (x.job : Int)] w5 (GetTo2 w5 (some x)) from by have h := CG.out w5 BW5.out x.job HIN.out.job; rw [HFI.out] at h; exact h)
      go_upto_region 11 with (go_at_call 15; go_must (refine CG5.out.mono ?_; rintro e w6 ⟨hb6, ts, bv, rfl, hts, htx, hlo⟩; obtain ⟨a6, n6, c6, rfl, hn6, hc6, _⟩ := htx.rb.cs; have B6 := hid hb6; have HTS := hid hts; have TX := hid htx; have LO := hid hlo; have HN6 := hid hn6; have HC6 := hid hc6; clear hb6 hts htx hlo hn6 hc6; unfold imgV; dsimp only))
      obtain ⟨q7, hq7⟩ : ∃ q7, w6.heap.size = q7 := ⟨_, rfl⟩
      have b7 := below_alloc w6 (.cells #[.int .u32 (x.job : Int), .int .u32 (x.ver : Int), .int .i64 x.credit, .slice a6 n6 c6] 36)
      have k7 := blk_alloc w6 [.int .u32 (x.job : Int), .int .u32 (x.ver : Int), .int .i64 x.credit, .slice a6 n6 c6] 36
      have HQ7 := hid hq7
      rw [hq7] at k7 ⊢
      have B7 := hid b7
      have K7 := hid k7
      clear b7 k7 hq7 z0
      generalize (w6.alloc (.cells #[.int .u32 (x.job : Int), .int .u32 (x.ver : Int), .int .i64 x.credit, .slice a6 n6 c6] 36)) = w7 at B7 K7 ⊢
      have B57 := hid (B6.out.trans (B7.out.mono B6.out.size))
      have BW7 := hid (BW5.out.trans (B57.out.mono BW5.out.size))
      have n6e : n6 = x.blobs.length := by rw [← HTS.out, List.length_map]; exact HN6.out.symm
      have BLz := hid (show BL w7 _ (.slice a6 x.blobs.length c6) x.blobs from by have h := TX.out.bl.below B7.out; rw [HTS.out] at h; rw [n6e] at h; exact h)
      have BLx := hid (show BL w7 _ (.slice ba x.blobs.length bc) x.blobs from ((HX.out.below BW7.out).at' _ HRM.out).1)
      have HFB := hid (show x.blobs.length ≤ 9223372036854775807 from by have := HIN.out.few; omega)
      have hbb16 : (x.blobs.length : Int) ≤ 16 := by have := HIN.out.few; omega
      subst n6e
      have MKS := hid fun (W : World) (hW : Below w7.heap.size w7 W) => (show (W.cell? ⟨bl, ol + k, none⟩ = some (.int .u32 (x.job : Int)) ∧ (∀ i : Nat, W.cell? ⟨q5, i, none⟩ = ([.int .u32 (x.job : Int), .int .u32 (x.ver : Int), .int .i64 x.credit, .slice ba x.blobs.length bc, .slice aa x.at'.length ac] : List Value)[i]?) ∧ (∀ i : Nat, W.cell? ⟨q7, i, none⟩ = ([.int .u32 (x.job : Int), .int .u32 (x.ver : Int), .int .i64 x.credit, .slice a6 x.blobs.length c6] : List Value)[i]?) ∧ Below w7.heap.size w7 W) from
        ⟨by
          have h1 := B5.out.trans (B57.out.mono B5.out.size)
          have h2 := h1.trans (hW.mono h1.size)
          rw [← HL4.out]
          exact h2.cell HBL4.out, fun i => ((K5.out.below B57.out).below hW).cell i, fun i => (K7.out.below hW).cell i, hW⟩)
      have SB := hid fun (W : World) (hW : W.cell? ⟨bl, ol + k, none⟩ = some (.int .u32 (x.job : Int)) ∧ (∀ i : Nat, W.cell? ⟨q5, i, none⟩ = ([.int .u32 (x.job : Int), .int .u32 (x.ver : Int), .int .i64 x.credit, .slice ba x.blobs.length bc, .slice aa x.at'.length ac] : List Value)[i]?) ∧ (∀ i : Nat, W.cell? ⟨q7, i, none⟩ = ([.int .u32 (x.job : Int), .int .u32 (x.ver : Int), .int .i64 x.credit, .slice a6 x.blobs.length c6] : List Value)[i]?) ∧ Below w7.heap.size w7 W) => hW.2.2.2
      have CB1 := hid fun (W : World) => (show Calls Tryd.prog 24 #[.agg ([.int .u32 (x.job : Int), .int .u32 (x.ver : Int), .int .i64 x.credit, .slice a6 x.blobs.length c6] : List Value).toArray] W (fun e w' => e = .returned (.agg ([.int .u32 (x.job : Int), .int .u32 (x.ver : Int), .int .i64 x.credit, .slice a6 x.blobs.length c6, .slice none 0 0] : List Value).toArray) ∧ Below W.heap.size W w') from back_calls W x a6 x.blobs.length c6)
      have CS1 := hid fun (W : World) (hW : Below w7.heap.size w7 W) => (show Calls Tryd.prog 26 #[.agg ([.int .u32 (x.job : Int), .int .u32 (x.ver : Int), .int .i64 x.credit, .slice a6 x.blobs.length c6, .slice none 0 0] : List Value).toArray, .agg ([.int .u32 (x.job : Int), .int .u32 (x.ver : Int), .int .i64 x.credit, .slice ba x.blobs.length bc, .slice aa x.at'.length ac] : List Value).toArray] W (fun e w' => e = .returned (.bool true) ∧ Below W.heap.size W w') from isame_calls W _ _ x a6 _ c6 none 0 0 ba _ bc aa _ ac (BLz.out.below hW) (BLx.out.below hW) HFB.out)
      clear CG5
      go_region_held_law (fun W => (W.cell? ⟨bl, ol + k, none⟩ = some (.int .u32 (x.job : Int)) ∧ (∀ i : Nat, W.cell? ⟨q5, i, none⟩ = ([.int .u32 (x.job : Int), .int .u32 (x.ver : Int), .int .i64 x.credit, .slice ba x.blobs.length bc, .slice aa x.at'.length ac] : List Value)[i]?) ∧ (∀ i : Nat, W.cell? ⟨q7, i, none⟩ = ([.int .u32 (x.job : Int), .int .u32 (x.ver : Int), .int .i64 x.credit, .slice a6 x.blobs.length c6] : List Value)[i]?) ∧ Below w7.heap.size w7 W))
        ((refine MKS.out _ ?_; first | with_reducible exact below_drew _ | with_reducible exact Ld.out | with_reducible exact Lb.out | with_reducible exact Below.refl _ _))
        (first
          | (go_at_call 26; have hx := Lb.out; clear hx; refine (CS1.out _ (SB.out _ (by assumption))).mono ?_; rintro e wd ⟨rfl, hb⟩; have Ld := hid ((SB.out _ (by assumption)).trans (hb.mono (SB.out _ (by assumption)).size)); clear hb)
          | (go_at_call 24; refine (CB1.out _).mono ?_; rintro e wb ⟨rfl, hb⟩; have Lb := hid ((SB.out _ (by assumption)).trans (hb.mono (SB.out _ (by assumption)).size)); clear hb))
      all_goals
        have hbd := B7.out.trans (Ld.out.mono B7.out.size)
        have FL0 := hid (Flip.of TX.out LO.out (Nat.le_of_eq HQ7.out) hbd ((K7.out.below Ld.out)))
        have BRd := hid (BR.out.trans ((B5.out.trans ((B57.out.trans (Ld.out.mono B57.out.size)).mono B5.out.size)).mono BR.out.size))
        have g3 := (K7.out.below Ld.out).get 3 rfl
        have HTN := hid (show ts.length = x.blobs.length from by rw [← HTS.out, List.length_map])
        have hN6c : (x.blobs.length : Int) ≤ (c6 : Int) := by have := HC6.out; omega
        have R1 := hid (show AbRel w2 w5.heap.size q7 x ts (.slice a6 x.blobs.length c6) (.int .i64 0) wd from ⟨0, rfl, Nat.zero_le _, BRd.out, FL0.out⟩)
        clear hbd
        go_wp2_with fail
        go_loopw [12, 13, 90] (fun _ _ iv wr => AbRel w2 w5.heap.size q7 x ts (.slice a6 x.blobs.length c6) iv wr) (fun _ _ iv _ => x.blobs.length - (intOf iv).toNat)
        case atStart => exact R1.out
        case round =>
          clear R1 g3
          obtain ⟨w8, rfl⟩ : ∃ w8 : World, w8 = wr := ⟨_, rfl⟩
          obtain ⟨k2, rfl, hk2, hb8, hf8⟩ := hrel
          have B8 := hid hb8
          have F8 := hid hf8
          clear hb8 hf8
          by_cases hlt2 : k2 < x.blobs.length
          · have hlt2' : (k2 : Int) < (x.blobs.length : Int) := by omega
            have hkt : k2 < ts.length := by rw [HTN.out]; exact hlt2
            obtain ⟨rb, ro, rfl, hrc⟩ := F8.out.cell hkt
            have g3 := F8.out.blk.get 3 rfl
            obtain ⟨t, ht⟩ : ∃ t, ts[k2] = t := ⟨_, rfl⟩
            rw [ht] at hrc
            have HT := hid ht
            have HTM := hid (show t ∈ ts from ht ▸ List.getElem_mem hkt)
            obtain ⟨N, hN⟩ : ∃ N, t.p.length = N := ⟨_, rfl⟩
            have htc := (F8.out.tx t HTM.out).1
            have hN100 : (N : Int) ≤ 9223372036854775807 := by
              have hm : t.p ∈ x.blobs := by rw [← HTS.out]; exact List.mem_map.2 ⟨t, HTM.out, rfl⟩
              have := HSM.out x (by rw [← HML.out]; exact List.mem_map.2 ⟨_, HRM.out, rfl⟩) _ hm
              omega
            rw [hN] at hrc htc
            have HNN := hid hN
            have htc' : (N : Int) ≤ (t.c : Int) := by omega
            have R2 := hid (show AcRel w2 w5.heap.size q7 x ts (.slice (some ⟨rb, ro, none⟩) x.blobs.length c6) N (.int .i64 0) w8 from ⟨0, rfl, Nat.zero_le _, B8.out, F8.out⟩)
            clear ht hN htc
            obtain ⟨ta, tc, tp⟩ := t
            dsimp only at hrc htc' HT HTM HNN
            go_wp2_with fail
            go_loopw [13, 99] (fun _ iv wr => AcRel w2 w5.heap.size q7 x ts (.slice (some ⟨rb, ro, none⟩) x.blobs.length c6) N iv wr) (fun _ iv _ => N - (intOf iv).toNat)
            case atStart => exact R2.out
            case round =>
              clear R2 g3 hrc
              obtain ⟨w9, rfl⟩ : ∃ w9 : World, w9 = wr := ⟨_, rfl⟩
              obtain ⟨k3, rfl, hk3, hb9, hf9⟩ := hrel
              have B9 := hid hb9
              have F9 := hid hf9
              clear hb9 hf9
              by_cases hlt3 : k3 < N
              · have hlt3' : (k3 : Int) < (N : Int) := by omega
                obtain ⟨rb', ro', e', hrc⟩ := F9.out.cell hkt
                cases e'
                rw [HT.out] at hrc
                dsimp only at hrc
                rw [HNN.out] at hrc
                have g3 := F9.out.blk.get 3 rfl
                obtain ⟨b9, o9, rfl, h91, h92, h93, ⟨cur, h94⟩, h95⟩ := (F9.out.tx _ HTM.out).2 (by intro e; have h := HNN.out; have e' : tp = [] := e; rw [e'] at h; simp at h; omega)
                have h96 := h95 k3 (by rw [HNN.out]; exact hlt3)
                have F10 := hid fun (m : Int) => F9.out.poke (o9 + k3) m h92 h93 h96
                obtain ⟨m, hm⟩ := h96
                have fz := h94.free (o9 + k3)
                have R3 := hid fun (m : Int) => (show AcRel w2 w5.heap.size q7 x ts (.slice (some ⟨rb, ro, none⟩) x.blobs.length c6) N (.int .i64 ((k3 : Int) + 1)) (w9.setCell ⟨b9, o9 + k3, none⟩ (.int .u8 m)) from ⟨k3 + 1, rfl, hlt3, B9.out.trans ((chg_setCell _ _ _ _).below B9.out.size fun q hq => by
                  rw [List.mem_singleton] at hq
                  subst hq
                  have := BR.out.size
                  have := B5.out.size
                  omega), F10.out m⟩)
                clear h91 h92 h93 h94 h95
                go_wp2_with fail
                refine ⟨?_, by simp only [intOf]; omega⟩
                first | exact R3.out _ | ((repeat apply Exists.intro); refine ⟨R3.out _, ?_⟩; and_intros <;> rfl)
              · have hlt3' : ¬ ((k3 : Int) < (N : Int)) := by omega
                have R3 := hid (show AbRel w2 w5.heap.size q7 x ts (.slice (some ⟨rb, ro, none⟩) x.blobs.length c6) (.int .i64 ((k2 : Int) + 1)) w9 from ⟨k2 + 1, rfl, hkt, B9.out, F9.out⟩)
                go_wp2_with fail
                refine ⟨?_, by simp only [intOf]; omega⟩
                first | exact R3.out | ((repeat apply Exists.intro); refine ⟨R3.out, ?_⟩; and_intros <;> rfl)
          · have hlt2' : ¬ ((k2 : Int) < (x.blobs.length : Int)) := by omega
            have R3 := hid (show AkRel w2 n (.int .i64 ((k : Int) + 1)) w8 from ⟨k + 1, rfl, hlt, B8.out⟩)
            go_wp2_with fail
            refine ⟨?_, by simp only [intOf]; omega⟩
            first | exact R3.out | ((repeat apply Exists.intro); refine ⟨R3.out, ?_⟩; and_intros <;> rfl)
    · have hlt' : ¬ ((k : Int) < (n : Int)) := by omega
      obtain rfl : k = n := by omega
      have CG0 := hid (show Calls Tryd.prog 15 #[.pointer (some ⟨c, 0, none⟩), .int .u32 0] w4 (GetTo2 w4 none) from by have h := CG.out w4 BW.out 0 (by decide); rw [H0.out] at h; exact h)
      go_wp2_with (go_at_call 15; go_must (refine CG0.out.mono ?_; rintro e w6 ⟨hb6, rfl⟩; have B6 := hid hb6; clear hb6; unfold zimg; dsimp only))
      go_ret
      exact ⟨rfl, (BW.out.trans (B6.out.mono BW.out.size)).trans ((below_alloc w6 _).mono (BW.out.trans (B6.out.mono BW.out.size)).size)⟩
end Go.Proofs.YtoapibbbooongaaDoor
