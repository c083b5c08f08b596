/- The walks of layer 7: the document's batches. -/
import Derived.Test.YtoapibbbooongaaDoorScrX
import Derived.Test.YtoapibbbooongaaDoorBlkJ
namespace Go.Proofs.YtoapibbbooongaaDoor
open Go.RowKit Go.Quad _root_.Quad _root_.Quad.Slab _root_.Quad.Ink

theorem under_slbs2 : Tryd.prog.underlying 75 = some (.slice 34) := by kernel_rfl
theorem info_slbs2 : (Tryd.prog.info? 34).map (fun i => (i.zero, i.size, i.bytes)) = some (some (.slice none 0 0), 1, 24) := by kernel_rfl
/-- a batch's texts, and the row they stand in -/
abbrev BRow := List TS × Option Addr × Nat × Nat
def rv (x : BRow) : Value := .slice x.2.1 x.2.2.1 x.2.2.2
def rowV (x : BRow) : List Value := [rv x]
theorem rowV_length (x : BRow) : (rowV x).length = 1 := rfl
theorem rowV_one (x : BRow) : ∀ u ∈ rowV x, u.oneCell' = true := by intro u hu; simp only [rowV, rv, List.mem_singleton] at hu; subst hu; rfl
/-- batches read so far -/
structure BaSt (w1 w : World) (rd : Rd) (ov pv : Value) (L : List BRow) : Prop where
  below : Below w1.heap.size w1 w
  p : OB w w1.heap.size 5 pv rd.p
  out : L.map (fun x => x.1.map TS.p) = rd.out
  row : RO rowV 1 w w1.heap.size 34 ov L
  tx : ∀ x ∈ L, Texts w1 w x.1 (rv x)
  no : ∀ x ∈ L, ∀ k, TsX x.1 (rv x) k → ov.ownBlock ≠ some k ∧ pv.ownBlock ≠ some k
  ne : ∀ k, pv.ownBlock = some k → ov.ownBlock ≠ some k
theorem BaSt.later {w1 w w' : World} {rd : Rd} {ov pv : Value} {L : List BRow} (h : BaSt w1 w rd ov pv L) (hb : Below w.heap.size w w') : BaSt w1 w' rd ov pv L :=
  ⟨h.below.trans (hb.mono h.below.size), ob_ro.2 ((ob_ro.1 h.p).chg (Chg.of_below [] hb) (by simp)), h.out, h.row.chg (Chg.of_below [] hb) (by simp), fun x hx => (h.tx x hx).below hb, h.no, h.ne⟩
theorem BaSt.goes {w1 w w' : World} {rd : Rd} {ov pv pv' : Value} {L : List BRow} {d : Bytes} {ep : Nat} (h : BaSt w1 w rd ov pv L) (hg : w.grownBy w' pv.ownBlock) (hp : RO u8f 1 w' w1.heap.size 5 pv' (rd.p ++ d)) (hv : pv'.ownBlock = pv.ownBlock ∨ pv'.ownBlock = some w.heap.size) :
    BaSt w1 w' ⟨rd.next, ep, rd.p ++ d, rd.out⟩ ov pv' L := by
  have hc := chg_grown hg
  have hpo : ∀ k, pv.ownBlock = some k → w1.heap.size ≤ k := fun k hk => ((ob_ro.1 h.p).ownBlock k hk).1
  have hnew : ∀ k, k < w.heap.size → pv.ownBlock ≠ some k → pv'.ownBlock ≠ some k := fun k hk hn e => by
    rcases hv with hv | hv
    · exact hn (hv ▸ e)
    · rw [hv] at e; simp only [Option.some.injEq] at e; omega
  refine ⟨h.below.trans (hc.below h.below.size fun k hk => hpo k (by simpa using hk)), ob_ro.2 hp, h.out, h.row.chg hc (fun k hk hm => h.ne k (by simpa using hm) hk), fun x hx => (h.tx x hx).chg hc (fun k hk hT => (h.no x hx k hT).2 (by simpa using hk)), fun x hx k hk => ⟨(h.no x hx k hk).1, hnew k ((h.tx x hx).lt k hk).2 (h.no x hx k hk).2⟩, fun k hk e => ?_⟩
  rcases hv with hv | hv
  · exact h.ne k (hv ▸ hk) e
  · rw [hv] at hk; simp only [Option.some.injEq] at hk; have := (h.row.ownBlock k e).2; omega
theorem BaSt.more {w1 w w2 w6 w7 : World} {rd : Rd} {ov ov' pv : Value} {L : List BRow} {ts : List TS} {a : Option Addr} {n c ep nx : Nat} (h : BaSt w1 w rd ov pv L) (h2 : w.heap.size ≤ w2.heap.size) (hT : Texts w2 w6 ts (.slice a n c)) (hb : Below w.heap.size w w6)
    (hro : RO rowV 1 w7 w1.heap.size 34 ov' (L ++ [(ts, a, n, c)])) (hg : w6.grownBy w7 ov.ownBlock) (hv : ov'.ownBlock = ov.ownBlock ∨ ov'.ownBlock = some w6.heap.size) :
    BaSt w1 w7 ⟨nx, ep, [], rd.out ++ [ts.map TS.p]⟩ ov' (.slice none 0 0) (L ++ [(ts, a, n, c)]) := by
  have hc := chg_grown hg
  have h6 := h.later hb
  have hoo : ∀ k, ov.ownBlock = some k → w1.heap.size ≤ k ∧ k < w.heap.size := h.row.ownBlock
  have hw1 := h.below.size
  have hb6 := hb.size
  have hnew : ∀ k, k < w6.heap.size → ov.ownBlock ≠ some k → ov'.ownBlock ≠ some k := fun k hk hn e => by
    rcases hv with hv | hv
    · exact hn (hv ▸ e)
    · rw [hv] at e; simp only [Option.some.injEq] at e; omega
  have hTb : Texts w1 w6 ts (.slice a n c) := hT.base (by omega)
  have hTn : ∀ k, TsX ts (.slice a n c) k → ov.ownBlock ≠ some k := fun k hk e => by have := (hT.lt k hk).1; have := (hoo k e).2; omega
  refine ⟨h6.below.trans (hc.below h6.below.size fun k hk => (hoo k (by simpa using hk)).1), World.ownsRow_nil _ _ _ _, ?_, hro, fun x hx => ?_, fun x hx k hk => ⟨?_, by simp [Value.ownBlock]⟩, fun k hk => by simp [Value.ownBlock] at hk⟩
  · rw [List.map_append, h.out]; rfl
  · rcases List.mem_append.1 hx with hx | hx
    · exact (h6.tx x hx).chg hc (fun k hk hT => (h.no x hx k hT).1 (by simpa using hk))
    · rw [List.mem_singleton] at hx; subst hx
      exact hTb.chg hc (fun k hk hT => hTn k hT (by simpa using hk))
  · rcases List.mem_append.1 hx with hx | hx
    · exact hnew k ((h6.tx x hx).lt k hk).2 (h.no x hx k hk).1
    · rw [List.mem_singleton] at hx; subst hx
      exact hnew k (hT.lt k hk).2 (hTn k hk)
/-- what Batches tells -/
def BatTo (w : World) (rd : Rd) (e : Ending) (w' : World) : Prop :=
  ∃ ov L, e = .returned (.tuple #[ov, .int .i64 (rd.next : Int)]) ∧ Below w.heap.size w w' ∧ L.map (fun x => x.1.map TS.p) = rd.out ∧ RO rowV 1 w' w.heap.size 34 ov L ∧ ∀ x ∈ L, Texts w w' x.1 (rv x)
def BaRel (w1 : World) (s : Sl) (size : Nat) (r : RootD) (ov pv nv ev kv : Value) (wr : World) : Prop :=
  ∃ (k : Nat) (rd : Rd) (L : List BRow), kv = .int .i64 (k : Int) ∧ nv = .int .i64 (rd.next : Int) ∧ ev = .int .u32 (rd.epoch : Int) ∧ k ≤ size ∧ readGo (seeA s size r.area) r.gen (size - k) k rd = readS s size r ∧ BaSt w1 wr rd ov pv L ∧ rd.next ≤ k ∧ rd.p.length ≤ 104 * (k - rd.next) ∧ rd.epoch < 4294967296 ∧ L.length ≤ rd.next
theorem BaSt.to {w w1 wr : World} {rd R : Rd} {ov pv : Value} {L : List BRow} (h : BaSt w1 wr rd ov pv L) (hw : Below w.heap.size w w1) (e : rd.next = R.next ∧ rd.out = R.out) : BatTo w R (.returned (.tuple #[ov, .int .i64 (rd.next : Int)])) wr :=
  ⟨ov, L, by rw [e.1], hw.trans (h.below.mono hw.size), by rw [← e.2]; exact h.out, h.row.base' hw.size, fun x hx => (h.tx x hx).base hw.size⟩
/-- the document's eye over a batch's bytes -/
def RSpRel (w2 : World) (g A : Nat) (p : Bytes) (bv : Value) (wr : World) : Prop :=
  ∃ (k : Nat) (s : St) (ts : List TS), REyeAt wr g A s.1 s.2 ∧ s.1.length ≤ k ∧ (s.2 = false ∨ s.1 = []) ∧ splitGo k s (ts.map TS.p) = splitGo p.length (p, false) [] ∧ Texts w2 wr ts bv ∧ Chg [g] w2 wr ∧ ts.length + s.1.length ≤ p.length
theorem REyeAt.chg {S : List Nat} {w w' : World} {g A : Nat} {p : Bytes} {bad : Bool} (h : REyeAt w g A p bad) (hc : Chg S w w') (hg : g ∉ S) (hA : A ≠ g → A ∉ S) : REyeAt w' g A p bad := by
  obtain ⟨a, cap, h⟩ := h
  exact ⟨a, cap, h.own.keep hc hg, h.loc.row h.row hc hA, h.loc⟩
def lenAtR (w : World) (g : Nat) : Nat := match w.cell? ⟨g, 0, none⟩ with
  | some (.slice _ n _) => n
  | _ => 0
theorem lenAtR_eye {w : World} {g A : Nat} {p : Bytes} {bad : Bool} (h : REyeAt w g A p bad) : lenAtR w g = p.length := by
  obtain ⟨a, cap, h⟩ := h
  unfold lenAtR
  rw [h.own.cell]
  rfl
set_option maxRecDepth 100000 in
set_option maxHeartbeats 20000000 in
theorem rbatches_calls (w : World) (Fp : Nat → Prop) (B g dn dc : Nat) (wv : Value) (s : Sl) (size : Nat) (r : RootD) (h : IsRf w Fp B g dn dc wv s) (hr : r.Ok) (har : r.area ≤ 1) (hz : size ≤ 4096) (hlen : 2 + 2 * size ≤ s.done.length) (ho : s.off = false) :
    Calls Tryd.prog 73 #[.pointer (some ⟨g, 0, none⟩), .int .i64 (size : Int), .agg #[.int .u32 (r.turn : Int), .int .u32 (r.epoch : Int), .int .u32 (r.gen : Int), .int .u8 (r.area : Int)]] w (BatTo w (readS s size r)) := by
  have b1 := below_alloc w (.cells #[.int .u32 (r.turn : Int), .int .u32 (r.epoch : Int), .int .u32 (r.gen : Int), .int .u8 (r.area : Int)] 141)
  have k1 := blk_alloc w [.int .u32 (r.turn : Int), .int .u32 (r.epoch : Int), .int .u32 (r.gen : Int), .int .u8 (r.area : Int)] 141
  obtain ⟨z, hzz⟩ : ∃ z, w.heap.size = z := ⟨_, rfl⟩
  rw [hzz] at k1
  have H1 := hid (h.below b1)
  have HR := hid hr
  have HAR := hid har
  have HLN := hid hlen
  have HO := hid ho
  have B1 := hid b1
  have K1 := hid k1
  have HZZ := hid hzz
  have hz' : (size : Int) ≤ 4096 := by omega
  have ha' : (r.area : Int) ≤ 1 := by omega
  clear h hr har hlen ho b1 k1 hzz
  go_enter Tryd.func73, Tryd.ntmps73
  go_upto_region 1 with fail
  rw [HZZ.out]
  generalize (w.alloc (.cells #[.int .u32 (r.turn : Int), .int .u32 (r.epoch : Int), .int .u32 (r.gen : Int), .int .u8 (r.area : Int)] 141)) = w1 at H1 B1 K1 ⊢
  have R0 := hid (show BaRel w1 s size r (.slice none 0 0) (.slice none 0 0) (.int .i64 0) (.int .u32 0) (.int .i64 0) w1 from ⟨0, ⟨0, 0, [], []⟩, [], rfl, rfl, rfl, Nat.zero_le _, rfl, ⟨Below.refl _ _, World.ownsRow_nil _ _ _ _, rfl, RO.nil _ _ _ _ _, by simp, by simp, by simp [Value.ownBlock]⟩, Nat.le_refl _, by simp, by show 0 < 4294967296; omega, Nat.le_refl _⟩)
  go_wp2_with fail
  go_loopw [8, 9, 10, 11, 12, 13, 14, 15, 16, 17, 19] (fun ov pv nv ev _ _ _ _ _ _ kv wr => BaRel w1 s size r ov pv nv ev kv wr) (fun _ _ _ _ _ _ _ _ _ _ kv _ => size - (intOf kv).toNat)
  case atStart => exact R0.out
  case round =>
    clear R0
    obtain ⟨k, rd, L, rfl, rfl, rfl, hk, hgo, hst, hnk, hpl, hel, hLl⟩ := hrel
    have ST := hid hst
    have PL := hid hpl
    have LL := hid hLl
    have NX := hid hgo
    obtain ⟨oa, on, oc, rfl, _, _, _⟩ := hst.row.cs
    obtain ⟨pa, pc, epv, _⟩ := hst.p.bs
    obtain ⟨pn, hpn⟩ : ∃ pn, rd.p.length = pn := ⟨_, rfl⟩
    rw [hpn] at epv
    have HPN := hid hpn
    subst epv
    have hnk' : (rd.next : Int) ≤ (k : Int) := by omega
    have hel' : ¬ (4294967296 ≤ (rd.epoch : Int)) := by omega
    clear hgo hst hpl hpn hLl hel
    by_cases hlt : k < size
    case neg =>
      have hlt' : ¬ ((k : Int) < (size : Int)) := by omega
      have e1 : rd = readS s size r := by
        have h := NX.out
        rw [show size - k = 0 from by omega] at h
        exact h
      have FIN := hid (ST.out.to B1.out ⟨congrArg Rd.next e1, congrArg Rd.out e1⟩)
      clear e1
      go_wp2_with fail
      go_ret2
      exact FIN.out
    have hlt' : (k : Int) < (size : Int) := by omega
    have hae : r.area = 0 ∨ r.area = 1 := by have := HAR.out; omega
    have hv1 : (0 : Int) ≤ (r.area : Int) * (size : Int) := by rcases hae with e | e <;> rw [e] <;> simp
    have hv2 : (r.area : Int) * (size : Int) ≤ 4096 := by rcases hae with e | e <;> rw [e] <;> simp <;> omega
    have hidx : (2 + (r.area : Int) * (size : Int) + (k : Int)) = ((areaN size r.area k : Nat) : Int) := by
      unfold areaN
      rw [Int.natCast_add, Int.natCast_add, Int.natCast_mul]
      omega
    have hk' : (k : Int) ≤ 4096 := by omega
    have hin : areaN size r.area k < s.done.length := by
      have := HLN.out
      unfold areaN
      rcases hae with e | e <;> rw [e] <;> omega
    have HIX := hid hidx
    have HIN := hid hin
    clear hidx hae hin
    have CG := hid (show Calls Tryd.prog 92 #[.pointer (some ⟨g, 0, none⟩), .int .i64 (2 + (r.area : Int) * (size : Int) + (k : Int))] wr (BGetTo wr (getB s ((areaN size r.area k : Nat) : Int))) from by
      rw [HIX.out]
      exact rbget_calls wr Fp B g dn dc wv s _ (H1.out.below ST.out.below) (by have := HIX.out; omega))
    have q2 := (K1.out.below ST.out.below).get 2 rfl
    have q3 := (K1.out.below ST.out.below).get 3 rfl
    obtain ⟨rr, hrr⟩ : ∃ rr, getB s ((areaN size r.area k : Nat) : Int) = rr := ⟨_, rfl⟩
    have HRR := hid hrr
    rw [hrr] at CG
    clear hrr
    obtain ⟨⟨kd, ep, ba, bb, dat⟩, er⟩ := rr
    go_upto_region 8 with (go_at_call 92; go_must (refine CG.out.mono ?_; rintro e w4 ⟨a, n, cp, rfl, hn, hO, hb⟩; dsimp only at hn hO ⊢; have HN := hid hn; have HBS := hid (show BS w4 a cp dat from hO.bsN); have HB4 := hid hb; clear hn hO hb))
    have hb5 := below_alloc w4 (.cells #[.int .u8 (kd : Int), .int .u32 (ep : Int), .int .u32 (ba : Int), .int .u32 (bb : Int), .slice a n cp] 167)
    have k5 : Blk (w4.alloc (.cells #[.int .u8 (kd : Int), .int .u32 (ep : Int), .int .u32 (ba : Int), .int .u32 (bb : Int), .slice a n cp] 167)) w4.heap.size (blkCs7 ⟨kd, ep, ba, bb, dat⟩ a n cp) 167 := blk_alloc w4 _ _
    obtain ⟨y, hy⟩ : ∃ y, w4.heap.size = y := ⟨_, rfl⟩
    have HY := hid (show wr.heap.size ≤ y from by rw [← hy]; exact HB4.out.size)
    have HB5 := hid (HB4.out.trans (hb5.mono HB4.out.size))
    have BS5 := hid (HBS.out.below hb5)
    rw [hy] at k5 ⊢
    have K5 := hid k5
    clear hb5 k5 hy
    generalize (w4.alloc (.cells #[.int .u8 (kd : Int), .int .u32 (ep : Int), .int .u32 (ba : Int), .int .u32 (bb : Int), .slice a n cp] 167)) = w5 at HB5 BS5 K5 ⊢
    have ST5 := hid (ST.out.later HB5.out)
    have HOKB := hid (show (BlkD.mk kd ep ba bb dat).Ok from by have h := getB_ok s ((areaN size r.area k : Nat) : Int); rw [HRR.out] at h; exact h)
    have HD4 := hid (show dat.length ≤ 104 from by have h := getB_104 s ((areaN size r.area k : Nat) : Int); rw [HRR.out] at h; exact h)
    obtain ⟨gd, hgd⟩ : ∃ gd, goodA (seeA s size r.area) r.gen k rd = gd := ⟨_, rfl⟩
    have HGD := hid hgd
    have GI := hid (goodA_iff (G := seeA s size r.area) (gen := r.gen) (at' := k) (q := rd) (b := ⟨kd, ep, ba, bb, dat⟩) (e := er) HRR.out)
    rw [hgd] at GI
    clear hgd q2 q3 CG
    have y0 := K5.out.get 0 rfl
    have y1 := K5.out.get 1 rfl
    have y2 := K5.out.get 2 rfl
    have y3 := K5.out.get 3 rfl
    have y4 := K5.out.get 4 rfl
    have q2 := (K1.out.below ST5.out.below).get 2 rfl
    dsimp only at y0 y1 y2 y3 y4
    go_cut [88] from 35 to 89 (fun v88 w' => v88 = .bool (!gd) ∧ w5 = w')
    case first =>
      by_cases e0 : er = 0
      case neg =>
        have hg : gd = false := by
          cases hh : gd with
          | false => rfl
          | true =>
            obtain ⟨g0, g1, g2, g3, g4, g5, g6⟩ := GI.out.1 hh
            dsimp only at g0 g1 g2 g3 g4 g5 g6
            exact absurd g0 e0
        subst hg
        have e0' : ((er : Int) != 0) = true := by rw [bne_iff_ne]; omega
        clear GI HGD
        go_wp2_with fail
        go_meet
        exact ⟨rfl, rfl⟩
      subst e0
      by_cases e1 : kd = 2 ∨ kd = 3
      case neg =>
        have hg : gd = false := by
          cases hh : gd with
          | false => rfl
          | true =>
            obtain ⟨g0, g1, g2, g3, g4, g5, g6⟩ := GI.out.1 hh
            dsimp only at g0 g1 g2 g3 g4 g5 g6
            exact absurd g1 e1
        subst hg
        have e1' : ((kd : Int) != 2) = true := by rw [bne_iff_ne]; omega
        have e2' : ((kd : Int) != 3) = true := by rw [bne_iff_ne]; omega
        clear GI HGD
        go_wp2_with fail
        go_meet
        exact ⟨rfl, rfl⟩
      have hdl : dat.length = n := HN.out
      rcases e1 with h | h
      · subst h
        clear hdl
        by_cases e2 : ba = r.gen
        case neg =>
          have hg : gd = false := by
            cases hh : gd with
            | false => rfl
            | true =>
              obtain ⟨g0, g1, g2, g3, g4, g5, g6⟩ := GI.out.1 hh
              dsimp only at g0 g1 g2 g3 g4 g5 g6
              exact absurd g2 e2
          subst hg
          have e2' : ((ba : Int) != (r.gen : Int)) = true := by rw [bne_iff_ne]; omega
          clear GI HGD
          go_wp2_with fail
          go_meet
          exact ⟨rfl, rfl⟩
        subst e2
        by_cases e3 : bb = k
        case neg =>
          have hg : gd = false := by
            cases hh : gd with
            | false => rfl
            | true =>
              obtain ⟨g0, g1, g2, g3, g4, g5, g6⟩ := GI.out.1 hh
              dsimp only at g0 g1 g2 g3 g4 g5 g6
              exact absurd g3 e3
          subst hg
          have e3' : ((bb : Int) != (k : Int)) = true := by rw [bne_iff_ne]; omega
          clear GI HGD
          go_wp2_with fail
          go_meet
          exact ⟨rfl, rfl⟩
        obtain rfl : k = bb := e3.symm
        by_cases e4 : rd.epoch ≤ ep
        case neg =>
          have hg : gd = false := by
            cases hh : gd with
            | false => rfl
            | true =>
              obtain ⟨g0, g1, g2, g3, g4, g5, g6⟩ := GI.out.1 hh
              dsimp only at g0 g1 g2 g3 g4 g5 g6
              exact absurd g4 e4
          subst hg
          have e4' : (ep : Int) < (rd.epoch : Int) := by omega
          clear GI HGD
          go_wp2_with fail
          go_meet
          exact ⟨rfl, rfl⟩
        have e4' : ¬ ((ep : Int) < (rd.epoch : Int)) := by omega
        by_cases e6 : rd.next < k
        case neg =>
          have e6' : ¬ ((rd.next : Int) < (k : Int)) := by omega
          by_cases e5 : n = 104
          case neg =>
            have hg : gd = false := by
              cases hh : gd with
              | false => rfl
              | true =>
                obtain ⟨g0, g1, g2, g3, g4, g5, g6⟩ := GI.out.1 hh
                dsimp only at g0 g1 g2 g3 g4 g5 g6
                exact absurd (HN.out.symm.trans (g6 rfl)) e5
            subst hg
            have e5' : ((n : Int) != 104) = true := by rw [bne_iff_ne]; omega
            clear GI HGD
            go_wp2_with fail
            go_meet
            exact ⟨rfl, rfl⟩
          subst e5
          have hg : gd = true := GI.out.2 ⟨rfl, .inl rfl, rfl, rfl, e4, fun h => absurd h e6, fun _ => HN.out⟩
          subst hg
          clear GI HGD
          go_wp2_with fail
          go_meet
          exact ⟨rfl, rfl⟩
        have e6' : (rd.next : Int) < (k : Int) := by omega
        by_cases e7 : ep = rd.epoch
        case neg =>
          have hg : gd = false := by
            cases hh : gd with
            | false => rfl
            | true =>
              obtain ⟨g0, g1, g2, g3, g4, g5, g6⟩ := GI.out.1 hh
              dsimp only at g0 g1 g2 g3 g4 g5 g6
              exact absurd (g5 e6) e7
          subst hg
          have e7' : ((ep : Int) != (rd.epoch : Int)) = true := by rw [bne_iff_ne]; omega
          clear GI HGD
          go_wp2_with fail
          go_meet
          exact ⟨rfl, rfl⟩
        subst e7
        by_cases e5 : n = 104
        case neg =>
          have hg : gd = false := by
            cases hh : gd with
            | false => rfl
            | true =>
              obtain ⟨g0, g1, g2, g3, g4, g5, g6⟩ := GI.out.1 hh
              dsimp only at g0 g1 g2 g3 g4 g5 g6
              exact absurd (HN.out.symm.trans (g6 rfl)) e5
          subst hg
          have e5' : ((n : Int) != 104) = true := by rw [bne_iff_ne]; omega
          clear GI HGD
          go_wp2_with fail
          go_meet
          exact ⟨rfl, rfl⟩
        subst e5
        have hg : gd = true := GI.out.2 ⟨rfl, .inl rfl, rfl, rfl, e4, fun _ => rfl, fun _ => HN.out⟩
        subst hg
        clear GI HGD
        go_wp2_with fail
        go_meet
        exact ⟨rfl, rfl⟩
      · subst h
        clear hdl
        by_cases e2 : ba = r.gen
        case neg =>
          have hg : gd = false := by
            cases hh : gd with
            | false => rfl
            | true =>
              obtain ⟨g0, g1, g2, g3, g4, g5, g6⟩ := GI.out.1 hh
              dsimp only at g0 g1 g2 g3 g4 g5 g6
              exact absurd g2 e2
          subst hg
          have e2' : ((ba : Int) != (r.gen : Int)) = true := by rw [bne_iff_ne]; omega
          clear GI HGD
          go_wp2_with fail
          go_meet
          exact ⟨rfl, rfl⟩
        subst e2
        by_cases e3 : bb = k
        case neg =>
          have hg : gd = false := by
            cases hh : gd with
            | false => rfl
            | true =>
              obtain ⟨g0, g1, g2, g3, g4, g5, g6⟩ := GI.out.1 hh
              dsimp only at g0 g1 g2 g3 g4 g5 g6
              exact absurd g3 e3
          subst hg
          have e3' : ((bb : Int) != (k : Int)) = true := by rw [bne_iff_ne]; omega
          clear GI HGD
          go_wp2_with fail
          go_meet
          exact ⟨rfl, rfl⟩
        obtain rfl : k = bb := e3.symm
        by_cases e4 : rd.epoch ≤ ep
        case neg =>
          have hg : gd = false := by
            cases hh : gd with
            | false => rfl
            | true =>
              obtain ⟨g0, g1, g2, g3, g4, g5, g6⟩ := GI.out.1 hh
              dsimp only at g0 g1 g2 g3 g4 g5 g6
              exact absurd g4 e4
          subst hg
          have e4' : (ep : Int) < (rd.epoch : Int) := by omega
          clear GI HGD
          go_wp2_with fail
          go_meet
          exact ⟨rfl, rfl⟩
        have e4' : ¬ ((ep : Int) < (rd.epoch : Int)) := by omega
        by_cases e6 : rd.next < k
        case neg =>
          have e6' : ¬ ((rd.next : Int) < (k : Int)) := by omega
          have hg : gd = true := GI.out.2 ⟨rfl, .inr rfl, rfl, rfl, e4, fun h => absurd h e6, fun h => by cases h⟩
          subst hg
          clear GI HGD
          go_wp2_with fail
          go_meet
          exact ⟨rfl, rfl⟩
        have e6' : (rd.next : Int) < (k : Int) := by omega
        by_cases e7 : ep = rd.epoch
        case neg =>
          have hg : gd = false := by
            cases hh : gd with
            | false => rfl
            | true =>
              obtain ⟨g0, g1, g2, g3, g4, g5, g6⟩ := GI.out.1 hh
              dsimp only at g0 g1 g2 g3 g4 g5 g6
              exact absurd (g5 e6) e7
          subst hg
          have e7' : ((ep : Int) != (rd.epoch : Int)) = true := by rw [bne_iff_ne]; omega
          clear GI HGD
          go_wp2_with fail
          go_meet
          exact ⟨rfl, rfl⟩
        subst e7
        have hg : gd = true := GI.out.2 ⟨rfl, .inr rfl, rfl, rfl, e4, fun _ => rfl, fun h => by cases h⟩
        subst hg
        clear GI HGD
        go_wp2_with fail
        go_meet
        exact ⟨rfl, rfl⟩
    case rest =>
      obtain ⟨rfl, rfl⟩ := hcut
      have hn0k : 0 < size - k := by omega
      cases gd with
      | false =>
        have e1 : rd = readS s size r := by
          rw [← NX.out, show size - k = (size - k - 1) + 1 from by omega]
          unfold readGo stepRd
          rw [HGD.out]
          rfl
        have FIN := hid (ST5.out.to B1.out ⟨congrArg Rd.next e1, congrArg Rd.out e1⟩)
        clear e1
        go_wp2_with fail
        go_ret2
        exact FIN.out
      | true =>
        have GG := hid (GI.out.1 rfl)
        have hkk : kd = 2 ∨ kd = 3 := GG.out.2.1
        have RP5 := hid (ob_ro.1 ST5.out.p)
        have CSD := hid (show CS w5 a cp 1 (dat.flatMap u8f) from by rw [u8f_flat]; exact BS5.out)
        have HCAP := hid (show n ≤ cp from by have := BS5.out.fit'; have := HN.out; omega)
        have POW := hid (show ∀ x, (Value.slice pa pn pc).ownBlock = some x → w1.heap.size ≤ x ∧ x < wr.heap.size from fun x hx => (ob_ro.1 ST.out.p).ownBlock x hx)
        clear GI y2 y3 q2
        go_upto_region 11 with (at_builtin; go_must (refine wpList_append_ro u8f_len u8f_one (by decide) (.tmp 91) (.tmp 93) _ rfl rfl w1.heap.size 5 _ 1 info_u8 rfl under_bytes _ rd.p RP5.out rfl (l' := dat) HN.out CSD.out HCAP.out rfl (by have h1 := PL.out; have h2 := HD4.out; omega) ST5.out.below.size ?_; intro v8 w8 ho8 hb8 hg8 hv8; obtain ⟨a8, n8, c8, rfl, _, _, _⟩ := ho8.cs; have O8 := hid ho8; have G8 := hid hg8; have V8 := hid hv8; clear ho8 hb8 hg8 hv8))
        have MID := hid (ST5.out.goes (ep := ep) G8.out O8.out V8.out)
        have K8 := hid (K5.out.keep (chg_grown G8.out) (fun hm => by have := (POW.out y (by simpa using hm)).2; have := HY.out; omega))
        have hep : ep < 4294967296 := HOKB.out.epoch
        have hel2 : ¬ (4294967296 ≤ (ep : Int)) := by omega
        have hpl2 : (rd.p ++ dat).length ≤ 104 * (k + 1 - rd.next) := by have h1 := PL.out; have h2 := HD4.out; rw [List.length_append]; omega
        have HPL2 := hid hpl2
        have LP8 := hid (show (rd.p ++ dat).length ≤ 1000000 from by omega)
        have y0 := K8.out.get 0 rfl
        dsimp only at y0
        clear hpl2 RP5 CSD K5 BS5
        rcases hkk with h2 | h3
        · subst h2
          have NX2 := hid (readGo_step (b := ⟨2, ep, ba, bb, dat⟩) hn0k HRR.out HGD.out NX.out rfl)
          have R : BaRel w1 s size r (.slice oa on oc) (.slice a8 n8 c8) (.int .i64 (rd.next : Int)) (.int .u32 (ep : Int)) (.int .i64 ((k : Int) + 1)) w8 := ⟨k + 1, ⟨rd.next, ep, rd.p ++ dat, rd.out⟩, L, rfl, rfl, rfl, hlt, by rw [show size - (k + 1) = size - k - 1 from by omega]; exact NX2.out, MID.out, by show rd.next ≤ k + 1; omega, HPL2.out, hep, LL.out⟩
          have HR2 := hid R
          clear R
          go_wp2_with fail
          refine ⟨?_, by simp only [intOf]; omega⟩
          first | exact HR2.out | ((repeat apply Exists.intro); refine ⟨HR2.out, ?_⟩; and_intros <;> rfl)
        · subst h3
          go_upto_region 13 with fail
          have b9 := below_alloc w8 (.cells #[.slice a8 n8 c8, .bool false] 180)
          have k9 := blk_alloc w8 [.slice a8 n8 c8, .bool false] 180
          obtain ⟨q, hq⟩ : ∃ q, w8.heap.size = q := ⟨_, rfl⟩
          have hob := MID.out.p.bs
          obtain ⟨hn8, hbs8, hat8⟩ : (rd.p ++ dat).length = n8 ∧ BS w8 a8 c8 (rd.p ++ dat) ∧ ∀ x, a8 = some x → x.off = 0 ∧ x.spot = none ∧ w1.heap.size ≤ x.block ∧ x.block < w8.heap.size := by
            obtain ⟨a', c', e, h1, h2⟩ := hob
            cases e
            exact ⟨rfl, h1, h2⟩
          obtain ⟨A, hA, hAl⟩ : ∃ A, Loc q A a8 (rd.p ++ dat) ∧ A ≤ w8.heap.size := by
            cases a8 with
            | none =>
              refine ⟨0, .inl ?_, Nat.zero_le _⟩
              have := CS.none hbs8 rfl
              have hf := hbs8.fit'
              exact List.eq_nil_of_length_eq_zero (by omega)
            | some x =>
              obtain ⟨xb, xo, xs⟩ := x
              obtain ⟨_, h2, _, h4⟩ := hat8 _ rfl
              dsimp only at h2 h4
              subst h2
              exact ⟨xb, .inr ⟨by omega, xo, rfl⟩, by omega⟩
          have HN8 := hid hn8
          have HAL := hid hAl
          rw [hq] at k9 ⊢
          have E9 := hid (show REyeAt (w8.alloc (.cells #[.slice a8 n8 c8, .bool false] 180)) q A (rd.p ++ dat) false from ⟨a8, c8, by rw [hn8]; exact k9, hbs8.below b9, hA⟩)
          have HQ := hid (show w8.heap.size ≤ q ∧ q < (w8.alloc (.cells #[.slice a8 n8 c8, .bool false] 180)).heap.size from ⟨by omega, by simp; omega⟩)
          have B9 := hid b9
          clear hob hbs8 hat8 hA hAl hn8 b9 k9 hq y0
          generalize (w8.alloc (.cells #[.slice a8 n8 c8, .bool false] 180)) = w9 at E9 HQ B9 ⊢
          have R9 := hid (show RSpRel w9 q A (rd.p ++ dat) (.slice none 0 0) w9 from ⟨(rd.p ++ dat).length, (rd.p ++ dat, false), [], E9.out, Nat.le_refl _, .inl rfl, rfl, ⟨RO.nil _ _ _ _ _, by simp⟩, Chg.refl _ _, by simp⟩)
          obtain ⟨wo, rfl⟩ : ∃ wo : World, wo = wr := ⟨_, rfl⟩
          go_wp2_with fail
          go_loopw [16, 17] (fun bv _ wr => RSpRel w9 q A (rd.p ++ dat) bv wr) (fun _ _ wr => lenAtR wr q)
          case atStart => exact R9.out
          case round =>
            clear R9 E9
            obtain ⟨kk, st, ts, he, hkk, hbd, hgs, htx, hcg, hln⟩ := hrel
            have HKK := hid hkk
            have HBD := hid hbd
            have GS := hid hgs
            have TXs := hid htx
            have CGs := hid hcg
            have HLs := hid hln
            have LN := lenAtR_eye he
            have HE := hid he
            obtain ⟨ea, ec, hee⟩ := he
            have c0 := hee.own.get 0 rfl
            have c1 := hee.own.get 1 rfl
            obtain ⟨m, hm⟩ : ∃ m, st.1.length = m := ⟨_, rfl⟩
            rw [hm] at c0 LN
            have HM := hid hm
            have hm6 : (m : Int) ≤ 1000000 := by have := HLs.out; have := LP8.out; omega
            obtain ⟨ta, tn, tc, rfl, htn, _, _⟩ := htx.rb.cs
            have HTN := hid htn
            have htn6 : (tn : Int) ≤ 1000000 := by have := HLs.out; have := LP8.out; omega
            clear htn hkk hbd hgs htx hcg hln hee hm
            by_cases h0 : 0 < m
            · have h0' : (0 : Int) < (m : Int) := by omega
              have hbad : st.2 = false := by
                rcases HBD.out with h | h
                · exact h
                · have := HM.out; rw [h] at this; simp at this; omega
              rw [hbad] at c1
              have HLS := hid (textS_less (s := st) (by have := HM.out; omega) hbad)
              have HT := hid (rtext2_calls wr q A st HE.out (by have := HM.out; omega))
              obtain ⟨kk', rfl⟩ : ∃ k', kk = k' + 1 := ⟨kk - 1, by have := HKK.out; have := HM.out; omega⟩
              have hgo2 : splitGo (kk' + 1) st (ts.map TS.p) = splitGo kk' (textS st).2 (ts.map TS.p ++ [(textS st).1]) := by
                conv => lhs; unfold splitGo
                rw [if_neg (by have := HM.out; omega)]
              have GS2 := hid (hgo2.symm.trans GS.out)
              have LN' := hid LN
              clear hgo2 hbad LN GS HBD
              obtain ⟨tt, htt⟩ : ∃ tt, (textS st).1 = tt := ⟨_, rfl⟩
              obtain ⟨s2, hs2⟩ : ∃ s2, (textS st).2 = s2 := ⟨_, rfl⟩
              rw [htt, hs2] at HT GS2
              rw [hs2] at HLS
              clear htt hs2
              go_wp2_with (first
                | (go_at_call 98; go_must (refine HT.out.mono ?_; rintro e x2 ⟨a2, c2, rfl, hbs, he2, hc2, hn2⟩; have BS2 := hid hbs; have E2 := hid he2; have C2 := hid hc2; have N2 := hid hn2; have L2 := hid (cs_lit x2 (tsV ⟨a2, c2, tt⟩) 33 1 1 rfl (by simp [maxLen])); have X2 := hid ((TXs.out.keep hc2 (fun j hj => by rw [List.mem_singleton] at hj; subst hj; exact HQ.out.2)).keep (Chg.of_below [] (below_alloc x2 (.cells (tsV ⟨a2, c2, tt⟩).toArray 33))) (by simp)); clear hbs he2 hc2 hn2; dsimp only))
                | (at_builtin; go_must (refine wpList_append_ro tsV_length tsV_one (by decide) (.tmp 116) (.tmp 118) _ rfl rfl w9.heap.size 33 _ 24 info_slb rfl under_slbs _ ts X2.out.rb rfl (l' := [⟨a2, c2, tt⟩]) rfl (show CS _ _ _ _ ([(⟨a2, c2, tt⟩ : TS)].flatMap tsV) from L2.out) (Nat.le_refl _) rfl (by have := HLs.out; have := LP8.out; simp; omega) (Nat.le_trans (Nat.le_trans CGs.out.size C2.out.size) (below_alloc x2 _).size) ?_; intro v3 x3 ho3 hb3 hg3 hw3; have O3 := hid ho3; have G3 := hid hg3; have V3 := hid hw3; clear ho3 hb3 hg3 hw3)))
              have hcc : Chg [q] w9 x3 := ((CGs.out.trans C2.out).trans (Chg.of_below _ (below_alloc x2 _))).newer (chg_grown G3.out) (fun j hj => (TXs.out.rb.ownBlock j (by simpa using hj)).1)
              have he3 : REyeAt x3 q A s2.1 s2.2 := (E2.out.below (below_alloc x2 _)).chg (chg_grown G3.out) (fun hm => by have := (TXs.out.rb.ownBlock q (by simpa using hm)).1; have := HQ.out.2; omega) (fun _ hm => by have := (TXs.out.rb.ownBlock A (by simpa using hm)).1; have := HQ.out; have := HAL.out; omega)
              have R : RSpRel w9 q A (rd.p ++ dat) v3 x3 := ⟨kk', s2, ts ++ [⟨a2, c2, tt⟩], he3, by have := HKK.out; have := HLS.out.1; have := HM.out; omega, (by
                cases hc : s2.2 with
                | false => exact .inl rfl
                | true => exact .inr (HLS.out.2 hc)), by rw [List.map_append]; exact GS2.out,
                TXs.out.moreC CGs.out.size (C2.out.trans (Chg.of_below _ (below_alloc x2 (.cells (tsV ⟨a2, c2, tt⟩).toArray 33)))) (by intro j hj; rw [List.mem_singleton] at hj; subst hj; exact HQ.out.2) ⟨a2, c2, tt⟩ (bs_keep BS2.out (Chg.of_below [] (below_alloc x2 _)) (.inr (by simp))) (fun x hx => ⟨(N2.out x hx).1, Nat.lt_of_lt_of_le (N2.out x hx).2 (below_alloc x2 _).size⟩) O3.out G3.out V3.out, hcc, by rw [List.length_append, List.length_singleton]; have := HLs.out; have := HLS.out.1; have := HM.out; omega⟩
              refine ⟨R, ?_⟩
              rw [lenAtR_eye he3]
              have := LN'.out
              have := HLS.out.1
              have := HM.out
              omega
            · have h0' : ¬ ((0 : Int) < (m : Int)) := by omega
              obtain ⟨sp, bd⟩ := st
              dsimp only at c1
              have HSP := hid (show splitL (rd.p ++ dat) = (ts.map TS.p, !bd) from by
                have e : splitGo kk (sp, bd) (ts.map TS.p) = (ts.map TS.p, (sp, bd)) := by
                  have : sp = [] := List.eq_nil_of_length_eq_zero (by have := HM.out; dsimp only at this; omega)
                  subst this
                  exact splitGo_done kk bd _
                unfold splitL
                rw [← GS.out, e])
              have BWR := hid (show Below w8.heap.size w8 wr from B9.out.trans (CGs.out.below B9.out.size (fun j hj => by rw [List.mem_singleton] at hj; subst hj; exact HQ.out.1)))
              have M9 := hid (MID.out.later BWR.out)
              have hln9 : rd.next ≤ k + 1 := by omega
              clear LN
              cases bd with
              | true =>
                have E0 := hid (readGo_stop (b := ⟨3, ep, ba, bb, dat⟩) hn0k HRR.out HGD.out NX.out (show (3 : Nat) ≠ 2 by omega) (.inl (by show (splitL (rd.p ++ dat)).2 = false; rw [HSP.out]; rfl)))
                have FIN := hid (M9.out.to B1.out ⟨by have h := congrArg Rd.next E0.out; exact h, by have h := congrArg Rd.out E0.out; exact h⟩)
                go_wp2_with fail
                go_ret2
                exact FIN.out
              | false =>
                by_cases hbr : rd.next = 0 ∧ tn ≠ 1
                · have E0 := hid (readGo_stop (b := ⟨3, ep, ba, bb, dat⟩) hn0k HRR.out HGD.out NX.out (show (3 : Nat) ≠ 2 by omega) (.inr ⟨hbr.1, by show (splitL (rd.p ++ dat)).1.length ≠ 1; rw [HSP.out, List.length_map]; have := HTN.out; have := hbr.2; omega⟩))
                  have FIN := hid (M9.out.to B1.out ⟨by have h := congrArg Rd.next E0.out; exact h, by have h := congrArg Rd.out E0.out; exact h⟩)
                  have hz0 : ((rd.next : Int) == 0) = true := by rw [hbr.1]; rfl
                  have hn1 : ((tn : Int) != 1) = true := by rw [bne_iff_ne]; have := hbr.2; omega
                  clear hbr
                  go_wp2_with fail
                  go_ret2
                  exact FIN.out
                · have NX3 := hid (readGo_more (b := ⟨3, ep, ba, bb, dat⟩) hn0k HRR.out HGD.out NX.out (show (3 : Nat) ≠ 2 by omega) (by
                    show ¬ ((splitL (rd.p ++ dat)).2 = false ∨ (rd.next = 0 ∧ (splitL (rd.p ++ dat)).1.length ≠ 1))
                    rw [HSP.out]
                    dsimp only
                    rw [List.length_map]
                    have := HTN.out
                    rintro (h | h)
                    · cases h
                    · exact hbr ⟨h.1, by omega⟩))
                  have HBR := hid hbr
                  have LL9 := hid (M9.out.later (below_alloc wr (.cells #[.slice ta tn tc] 34)))
                  have TL9 := hid (TXs.out.below (below_alloc wr (.cells #[.slice ta tn tc] 34)))
                  have CSL := hid (show CS (wr.alloc (.cells #[.slice ta tn tc] 34)) (some ⟨wr.heap.size, 0, none⟩) 1 1 (([(ts, ta, tn, tc)] : List BRow).flatMap rowV) from cs_lit wr [.slice ta tn tc] 34 1 1 rfl (by decide))
                  have BAL := hid (BWR.out.trans ((below_alloc wr (.cells #[.slice ta tn tc] 34)).mono BWR.out.size))
                  have hcs : rd.next = 0 → tn = 1 := fun h => by
                    apply Classical.byContradiction
                    intro h1
                    exact hbr ⟨h, h1⟩
                  have HCS := hid hcs
                  clear hbr hcs
                  by_cases hz : rd.next = 0
                  case' pos =>
                    have hz0 : ((rd.next : Int) == 0) = true := by rw [hz]; rfl
                    obtain rfl : tn = 1 := HCS.out hz
                  case' neg =>
                    have hz0 : ((rd.next : Int) == 0) = false := by rw [beq_eq_false_iff_ne]; omega
                  all_goals
                    clear hz
                    go_wp2_with (at_builtin; go_must (refine wpList_append_ro rowV_length rowV_one (by decide) (.tmp 133) (.tmp 135) _ rfl rfl w1.heap.size 34 _ 24 info_slbs2 rfl under_slbs2 _ L LL9.out.row rfl (l' := [(ts, ta, _, tc)]) rfl CSL.out (Nat.le_refl _) rfl (by have := LL.out; simp; omega) LL9.out.below.size ?_; intro v10 x10 ho10 hb10 hg10 hv10; obtain ⟨a10, n10, c10, rfl, _, _, _⟩ := ho10.cs; have O10 := hid ho10; have G10 := hid hg10; have V10 := hid hv10; clear ho10 hb10 hg10 hv10))
                    have hmo := MID.out.more (ep := ep) (nx := k + 1) B9.out.size TL9.out BAL.out O10.out G10.out V10.out
                    have R : BaRel w1 s size r (.slice a10 n10 c10) (.slice none 0 0) (.int .i64 ((k : Int) + 1)) (.int .u32 (ep : Int)) (.int .i64 ((k : Int) + 1)) x10 := ⟨k + 1, ⟨k + 1, ep, [], rd.out ++ [ts.map TS.p]⟩, _, rfl, rfl, rfl, hlt, by
                      rw [show size - (k + 1) = size - k - 1 from by omega]
                      have h := NX3.out
                      rw [HSP.out] at h
                      exact h, hmo, Nat.le_refl _, by simp, hep, by rw [List.length_append, List.length_singleton]; have := LL.out; show L.length + 1 ≤ k + 1; omega⟩
                    have HR2 := hid R
                    clear R hmo
                    refine ⟨?_, ?_⟩
                    rotate_left
                    · show size - (intOf (.int .i64 ((k : Int) + 1))).toNat < size - (intOf (.int .i64 (k : Int))).toNat
                      simp only [intOf]
                      omega
                    first | exact HR2.out | ((repeat apply Exists.intro); refine ⟨HR2.out, ?_⟩; and_intros <;> rfl)
end Go.Proofs.YtoapibbbooongaaDoor
