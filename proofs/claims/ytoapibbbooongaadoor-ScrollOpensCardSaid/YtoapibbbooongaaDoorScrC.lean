/- The walks of layer 7: how many parts; has a slab room; a batch is written. -/
import Derived.Test.YtoapibbbooongaaDoorScrB
import Derived.Test.YtoapibbbooongaaDoorSgOps
import Derived.Test.YtoapibbbooongaaDoorBlkE
namespace Go.Proofs.YtoapibbbooongaaDoor
open Go.RowKit Go.Quad _root_.Quad _root_.Quad.Slab _root_.Quad.Ink

set_option maxRecDepth 100000 in
theorem lparts_calls (w : World) (Q : Nat → Prop) (a : Option Addr) (n c : Nat) (l : List Bytes) (h : BL w Q (.slice a n c) l) (hQ : ∀ k, Q k → k < w.heap.size) (hs : ∀ t ∈ l, t.length ≤ 50000) (hl : (joinL l).length ≤ 900000) (hl2 : l.length ≤ 1000000) :
    Calls Tryd.prog 41 #[.slice a n c] w fun e w' => e = .returned (.int .i64 (partsL l : Int)) ∧ Below w.heap.size w w' := by
  have C := hid (join_calls w Q a n c l h hQ hs hl hl2)
  have HL := hid hl
  clear h hl
  go_enter Tryd.func41, Tryd.ntmps41
  go_wp2_with (first
    | (go_at_call 81; refine C.out.mono ?_; rintro e w1 ⟨v, rfl, ho, hb⟩; obtain ⟨a1, c1, rfl, hbs, _⟩ := ho.bs; obtain ⟨n1, hn1⟩ : ∃ n1, (joinL l).length = n1 := ⟨_, rfl⟩; rw [hn1]; have N1 := hid hn1; have P := hid (parts_calls w1 (fun _ => True) a1 n1 c1 (joinL l) hbs hn1 (by have := HL.out; omega) (fun _ _ => trivial)); have B := hid hb; clear ho hbs hb hn1; dsimp only)
    | (go_at_call 80; refine P.out.mono ?_; rintro e w2 ⟨v, rfl, hbl, hb⟩; have B2 := hid hb; obtain ⟨a2, c2, _, rfl, _, _, _⟩ := hbl; clear hb; dsimp only; rw [partsP_len]))
  go_ret
  exact ⟨rfl, B.out.trans (B2.out.mono B.out.size)⟩
set_option maxRecDepth 100000 in
theorem fits_calls (w : World) (B g d : Nat) (wv : Value) (s : Sl) (size : Int) (h : IsSlab w B g d wv s) (hz : -9223372036854775808 ≤ size ∧ size ≤ 9223372036854775807) (hl : s.done.length ≤ 100000) :
    Calls Tryd.prog 67 #[.pointer (some ⟨g, 0, none⟩), .int .i64 size] w fun e w' => e = .returned (.int .i64 (fitsS s size : Int)) ∧ w = w' := by
  have C := hid (len_calls w B g d wv s h)
  have hl' : (s.done.length : Int) ≤ 100000 := by omega
  clear h
  obtain ⟨m, hm⟩ : ∃ m, s.done.length = m := ⟨_, rfl⟩
  rw [hm] at C hl'
  unfold fitsS
  rw [hm]
  clear hm hl
  by_cases h1 : size < 1
  · rw [if_pos (.inl h1)]
    go_enter Tryd.func67, Tryd.ntmps67
    go_wp2_with fail
    go_ret
    exact ⟨rfl, rfl⟩
  · by_cases h2 : 4096 < size
    · rw [if_pos (.inr (.inl h2))]
      go_enter Tryd.func67, Tryd.ntmps67
      go_wp2_with fail
      go_ret
      exact ⟨rfl, rfl⟩
    · by_cases h3 : (m : Int) < 2 + 2 * size
      · rw [if_pos (.inr (.inr h3))]
        go_enter Tryd.func67, Tryd.ntmps67
        go_wp2_with (go_at_call 44; refine C.out.mono ?_; rintro e w1 ⟨rfl, rfl⟩; dsimp only)
        go_ret
        exact ⟨rfl, rfl⟩
      · rw [if_neg (by rintro (h | h | h) <;> omega)]
        go_enter Tryd.func67, Tryd.ntmps67
        go_wp2_with (go_at_call 44; refine C.out.mono ?_; rintro e w1 ⟨rfl, rfl⟩; dsimp only)
        go_ret
        exact ⟨rfl, rfl⟩
/-! a batch is written -/
theorem putParts_small (s : Sl) (size : Nat) (r : RootD) (a : Nat) (p : Bytes) : ∀ k, (putParts s size r a p k).1.steps ≤ s.steps + k ∧ (putParts s size r a p k).1.way.length ≤ s.way.length + k
  | 0 => by simp [putParts]
  | k + 1 => by
    have ih := putParts_small s size r a p k
    unfold putParts thenS
    split
    · omega
    · dsimp only
      have := putB_small (putParts s size r a p k).1 ((areaN size r.area (a + k) : Nat) : Int) (partB r a p k)
      omega
theorem pp_stop {s : Sl} {size : Nat} {r : RootD} {a : Nat} {p : Bytes} {k : Nat} (h : (putParts s size r a p k).2 ≠ 0) : ∀ d, putParts s size r a p (k + d) = putParts s size r a p k
  | 0 => rfl
  | d + 1 => by
    show thenS (putParts s size r a p (k + d)) _ = _
    rw [pp_stop h d, thenS_stop h]
theorem putS_stop {s : Sl} {size : Nat} {r : RootD} {a : Nat} {p : Bytes} {k : Nat} (h : (putParts s size r a p k).2 ≠ 0) (hk : k ≤ npart p.length) : putS s size r a p = putParts s size r a p k := by
  have e1 : putParts s size r a p (npart p.length) = putParts s size r a p k := by
    have := pp_stop h (npart p.length - k)
    rwa [show k + (npart p.length - k) = npart p.length from by omega] at this
  unfold putS
  rw [e1, thenS_stop h]
theorem pp_next {s : Sl} {size : Nat} {r : RootD} {a : Nat} {p : Bytes} {k : Nat} (h : (putParts s size r a p k).2 = 0) : putB (putParts s size r a p k).1 ((areaN size r.area (a + k) : Nat) : Int) (partB r a p k) = putParts s size r a p (k + 1) := by
  show _ = thenS (putParts s size r a p k) _
  rw [thenS_go h]
def WsRel (w3 : World) (B g d _q : Nat) (wv : Value) (s : Sl) (size : Nat) (r : RootD) (at' : Nat) (p : Bytes) (iv : Value) (wr : World) : Prop :=
  ∃ k : Nat, iv = .int .i64 (k : Int) ∧ k ≤ npart p.length ∧ (putParts s size r at' p k).2 = 0 ∧ SG w3 B g d wv [] (putParts s size r at' p k).1 wr
set_option maxRecDepth 100000 in
set_option maxHeartbeats 4000000 in
theorem swrite_calls (w : World) (B g d : Nat) (wv : Value) (s : Sl) (size : Nat) (r : RootD) (at' : Nat) (Q : Nat → Prop) (a : Option Addr) (n c : Nat) (l : List Bytes) (hS : IsSlab w B g d wv s) (hr : r.Ok) (ha : r.area ≤ 1) (hz : size ≤ 4096) (hat : at' + partsL l ≤ 4096)
    (h : BL w Q (.slice a n c) l) (hQ : ∀ k, Q k → k < w.heap.size) (hs : ∀ t ∈ l, t.length ≤ 50000) (hl : (joinL l).length ≤ 900000) (hl2 : l.length ≤ 1000000) (hq : Laid w) (hB0 : 0 < B) (hst : s.steps + 5000 < 1000000) (hw : s.way.length + 5000 < 1000000) :
    Calls Tryd.prog 77 #[.pointer (some ⟨g, 0, none⟩), .int .i64 (size : Int), .agg (rootV r).toArray, .int .i64 (at' : Int), .slice a n c] w (SlabTo w B g d wv (putS s size r at' (joinL l)).1 (putS s size r at' (joinL l)).2) := by
  have hb1 := below_alloc w (.cells (rootV r).toArray 134)
  have kq := blk_alloc w (rootV r) 134
  obtain ⟨q, hqq⟩ : ∃ q, w.heap.size = q := ⟨_, rfl⟩
  rw [hqq] at kq
  have CJ := hid (join_calls (w.alloc (.cells (rootV r).toArray 134)) Q a n c l (h.below hb1) (fun k hk => Nat.lt_of_lt_of_le (hQ k hk) hb1.size) hs hl hl2)
  have HS := hid hS
  have HR := hid hr
  have HL := hid hl
  have HQ := hid hq
  have HST := hid hst
  have HW := hid hw
  have hz' : (size : Int) ≤ 4096 := by omega
  have hat2 : (at' : Int) ≤ 4096 := by omega
  have HAT := hid hat
  have HA := hid ha
  have B1 := hid hb1
  have KQ := hid kq
  have QQ := hid hqq
  clear hS hr hl hq hst hw hat h hQ hs hl2 hb1 kq ha
  unfold rootV
  unfold rootV at CJ B1 KQ
  go_enter Tryd.func77, Tryd.ntmps77
  go_upto_region 1 with fail
  clear hqq
  generalize (w.alloc (.cells [.int .u32 (r.turn : Int), .int .u32 (r.epoch : Int), .int .u32 (r.gen : Int), .int .u8 (r.area : Int)].toArray 134)) = w1 at CJ B1 KQ ⊢
  go_upto_region 2 with (first
    | (go_at_call 81; go_must (refine CJ.out.mono ?_; rintro e w2 ⟨v, rfl, ho, hb⟩; obtain ⟨a1, c1, rfl, hbs, hof⟩ := ho.bs; obtain ⟨n1, hn1⟩ : ∃ n1, (joinL l).length = n1 := ⟨_, rfl⟩; rw [hn1]; have N1 := hid hn1; have P := hid (parts_calls w2 (fun k => w1.heap.size ≤ k ∧ k < w2.heap.size) a1 n1 c1 (joinL l) hbs hn1 (by have := HL.out; omega) (fun x hx => ⟨(hof x hx).2.2.1, (hof x hx).2.2.2⟩)); have B2 := hid hb; clear ho hbs hb hn1 hof; dsimp only))
    | (go_at_call 80; go_must (refine P.out.mono ?_; rintro e w3 ⟨v, rfl, hbl, hb⟩; have B3 := hid hb; have PL := hid hbl; obtain ⟨a2, c2, _, rfl, _, _, _⟩ := hbl; clear hb; dsimp only)))
  have hb13 : Below w1.heap.size w1 w3 := B2.out.trans (B3.out.mono B2.out.size)
  have B13 := hid (B1.out.trans (hb13.mono B1.out.size))
  have K3 := hid (KQ.out.below hb13)
  have S3 := hid (HS.out.below B13.out)
  have L3 := hid (HQ.out.below B13.out HQ.out.1)
  have PL3 := hid (PL.out.wider (Q' := fun k => w1.heap.size ≤ k) (fun k hk => by
    rcases hk with hk | hk
    · exact hk.1
    · exact Nat.le_trans B2.out.size hk.1))
  have HNQ := hid (show ∀ k ∈ slS g d wv, ¬ w1.heap.size ≤ k from fun k hk h => by have := (HS.out.in_ge k hk).2; have := B1.out.size; omega)
  have HQ1 := hid (show q ∉ slS g d wv from fun hm => by have := (HS.out.in_ge q hm).2; have := QQ.out; omega)
  have R0 := hid (show WsRel w3 B g d q wv s size r at' (joinL l) (.int .i64 0) w3 from ⟨0, rfl, Nat.zero_le _, rfl, SG.start S3.out⟩)
  clear hb13 PL CJ P
  obtain ⟨p, hp⟩ : ∃ p, joinL l = p := ⟨_, rfl⟩
  have HPN := hid (show npart p.length = partsL l from by rw [← hp]; rfl)
  rw [hp] at PL3 R0 N1 HL
  have HPP := hid hp
  rw [partsP_len] at PL3
  rw [show (partsP (joinL l)).length = npart p.length from by rw [partsP_len, hp]]
  clear hp
  obtain ⟨N, hN⟩ : ∃ N, npart p.length = N := ⟨_, rfl⟩
  have HN := hid hN
  rw [hN] at PL3 ⊢
  have hN2 : (at' : Int) + (N : Int) ≤ 4096 := by have := HAT.out; have := HPN.out; omega
  clear hN
  go_wp2_with fail
  go_loopw [21] (fun iv wr => WsRel w3 B g d q wv s size r at' p iv wr) (fun iv _ => N - (intOf iv).toNat)
  case atStart => exact R0.out
  case round =>
    clear R0
    obtain ⟨k, rfl, hk, hz0, hsg⟩ := hrel
    have HZ := hid hz0
    have SGk := hid hsg
    have HK := hid hk
    clear hz0 hsg hk
    by_cases hlt : k < N
    · have hlt' : (k : Int) < (N : Int) := by omega
      have hcg := SGk.out.chg
      obtain ⟨bb, bo, rfl, hqb, v, hcell, htx⟩ := (PL3.out.keep hcg HNQ.out (fun _ h => h)).at (k := k) (by rw [partsP_len, HN.out]; exact hlt)
      obtain ⟨ta, tc, rfl, hbs, _⟩ := htx
      rw [partsP_get (by rw [HN.out]; exact hlt)] at hcell hbs
      have HTX := hid hbs
      obtain ⟨m, hm⟩ : ∃ m, (partP p k).length = m := ⟨_, rfl⟩
      rw [hm] at hcell
      have HM := hid hm
      have kq := K3.out.keep hcg HQ1.out
      have q1 := kq.get 1 rfl
      have q2 := kq.get 2 rfl
      have q3 := kq.get 3 rfl
      have KQ4 := hid kq
      clear hbs hqb hcg hm kq
      go_upto_region 5 with fail
      go_upto_region 6 with (first
        | (refine wpListQ_alloc (o := ⟨some 14, _, _, _, _, _⟩) 96 rfl rfl zblk 5 info_blk ?_)
        | (refine wpListQ_store_new (o := ⟨none, _, 0, _, _, _⟩) rfl 96 (.tmp 14) (.tmp 35) rfl zblk ([.int .u8 2, .int .u32 (r.epoch : Int), .int .u32 (r.gen : Int), .int .u32 ((at' : Int) + (k : Int)), .slice ta m tc] : List Value).toArray rfl rfl size_blk rfl (by simp [Value.oneCell']) ?_))
      simp only [Act.put, List.setIfInBounds_toArray, List.set_cons_succ, List.set_cons_zero]
      have b4 := below_alloc wr (.cells ([.int .u8 2, .int .u32 (r.epoch : Int), .int .u32 (r.gen : Int), .int .u32 ((at' : Int) + (k : Int)), .slice ta m tc] : List Value).toArray 96)
      have k4 := blk_alloc wr [.int .u8 2, .int .u32 (r.epoch : Int), .int .u32 (r.gen : Int), .int .u32 ((at' : Int) + (k : Int)), .slice ta m tc] 96
      obtain ⟨z, hzz⟩ : ∃ z, wr.heap.size = z := ⟨_, rfl⟩
      have s4 := SGk.out.more b4 z ⟨by omega, by simp; omega⟩
      have HZL := hid (show w3.heap.size ≤ z from by have := SGk.out.chg.size; omega)
      have HTX4 := hid (HTX.out.below b4)
      have K4 := hid (KQ4.out.below b4)
      have HTZ := hid (show ∀ x, ta = some x → partP p k ≠ [] → x.block ≠ z from fun x hx hne he => by
        obtain ⟨b', o', e', hc'⟩ := HTX.out.at (List.length_pos_iff.2 hne)
        rw [hx] at e'
        cases e'
        have := World.block_lt_of_cell? wr ⟨b', o' + 0, none⟩ (hc' 0 (List.length_pos_iff.2 hne))
        dsimp only at this he
        omega)
      have HKZ := hid (show q ≠ z from by have := KQ4.out.lt; omega)
      rw [hzz] at k4
      rw [hzz]
      have KK4 := hid k4
      have SG4 := hid s4
      clear hzz s4 k4 b4 SGk q1 q2 q3 hcell
      generalize (wr.alloc (.cells ([.int .u8 2, .int .u32 (r.epoch : Int), .int .u32 (r.gen : Int), .int .u32 ((at' : Int) + (k : Int)), .slice ta m tc] : List Value).toArray 96)) = w4 at KK4 SG4 HTX4 K4 ⊢
      go_upto_if 40 with fail
      go_cut [] from 36 to 42 (fun w' => SG w3 B g d wv [z] (putParts s size r at' p k).1 w' ∧ Blk w' z [.int .u8 ((partB r at' p k).kind : Int), .int .u32 (r.epoch : Int), .int .u32 (r.gen : Int), .int .u32 ((at' : Int) + (k : Int)), .slice ta m tc] 96 ∧ BS w' ta tc (partP p k) ∧ Blk w' q [.int .u32 (r.turn : Int), .int .u32 (r.epoch : Int), .int .u32 (r.gen : Int), .int .u8 (r.area : Int)] 134)
      case first =>
        by_cases hlast : k + 1 = N
        · have hl1 : (k : Int) = (N : Int) - 1 := by omega
          have kd : (partB r at' p k).kind = 3 := by unfold partB; dsimp only; rw [if_pos (by rw [HN.out]; exact hlast)]
          have f0 := KK4.out.get 0 rfl
          have g0 := KK4.out.free 0
          have R : SG w3 B g d wv [z] (putParts s size r at' p k).1 (w4.setCell ⟨z, 0, none⟩ (.int .u8 3)) ∧ Blk (w4.setCell ⟨z, 0, none⟩ (.int .u8 3)) z [.int .u8 ((partB r at' p k).kind : Int), .int .u32 (r.epoch : Int), .int .u32 (r.gen : Int), .int .u32 ((at' : Int) + (k : Int)), .slice ta m tc] 96 ∧ BS (w4.setCell ⟨z, 0, none⟩ (.int .u8 3)) ta tc (partP p k) ∧ Blk (w4.setCell ⟨z, 0, none⟩ (.int .u8 3)) q [.int .u32 (r.turn : Int), .int .u32 (r.epoch : Int), .int .u32 (r.gen : Int), .int .u8 (r.area : Int)] 134 := by
            refine ⟨SG4.out.other (chg_setCell w4 z 0 _) (fun j hj => by simp at hj; subst hj; exact ⟨by simp, HZL.out⟩), by rw [kd]; exact KK4.out.set 0 (.int .u8 3), ?_, K4.out.keep (chg_setCell w4 z 0 _) (by simp; exact HKZ.out)⟩
            by_cases he : partP p k = []
            · rw [he] at HTX4 ⊢; exact bs_void HTX4.out
            · exact bs_keep HTX4.out (chg_setCell w4 z 0 _) (.inr fun x hx hm => HTZ.out x hx he (by simpa using hm))
          have HR := hid R
          clear R
          go_wp2_with fail
          go_meet
          exact HR.out
        · have hl1 : ¬ ((k : Int) = (N : Int) - 1) := by omega
          have kd : (partB r at' p k).kind = 2 := by unfold partB; dsimp only; rw [if_neg (by rw [HN.out]; exact hlast)]
          have R : SG w3 B g d wv [z] (putParts s size r at' p k).1 w4 ∧ Blk w4 z [.int .u8 ((partB r at' p k).kind : Int), .int .u32 (r.epoch : Int), .int .u32 (r.gen : Int), .int .u32 ((at' : Int) + (k : Int)), .slice ta m tc] 96 ∧ BS w4 ta tc (partP p k) ∧ Blk w4 q [.int .u32 (r.turn : Int), .int .u32 (r.epoch : Int), .int .u32 (r.gen : Int), .int .u8 (r.area : Int)] 134 := ⟨SG4.out, by rw [kd]; exact KK4.out, HTX4.out, K4.out⟩
          have HR := hid R
          clear R
          go_wp2_with fail
          go_meet
          exact HR.out
      case rest =>
        obtain ⟨c1, c2, c3, c4⟩ := hcut
        have q3 := c4.get 3 rfl
        have SG5 := hid c1
        have KK5 := hid c2
        have T5 := hid c3
        have har : r.area = 0 ∨ r.area = 1 := by have := HA.out; omega
        have hv1 : (0 : Int) ≤ (r.area : Int) * (size : Int) := by rcases har with e | e <;> rw [e] <;> simp
        have hv2 : (r.area : Int) * (size : Int) ≤ 4096 := by rcases har with e | e <;> rw [e] <;> simp <;> omega
        have hidx : (2 + (r.area : Int) * (size : Int) + (at' : Int) + (k : Int)) = ((areaN size r.area (at' + k) : Nat) : Int) := by
          unfold areaN
          rw [Int.natCast_add, Int.natCast_add, Int.natCast_add, Int.natCast_mul]
          omega
        have HIX := hid hidx
        have hP := sg_put c1 ((areaN size r.area (at' + k) : Nat) : Int) ta m tc (partB r at' p k) (by omega) ⟨by show (if _ then 3 else 2) < 256; split <;> omega, HR.out.epoch, HR.out.gen, by show at' + k < 4294967296; omega⟩ c3 HM.out (c1.laid S3.out L3.out hB0) (by have := (putParts_small s size r at' p k).1; have := HST.out; omega) (by have := (putParts_small s size r at' p k).2; have := HW.out; omega)
        rw [pp_next HZ.out] at hP
        rw [← hidx] at hP
        have HP := hid (show Calls Tryd.prog 90 #[.pointer (some ⟨g, 0, none⟩), .int .i64 (2 + (r.area : Int) * (size : Int) + (at' : Int) + (k : Int)), .agg ([.int .u8 ((partB r at' p k).kind : Int), .int .u32 (r.epoch : Int), .int .u32 (r.gen : Int), .int .u32 ((at' : Int) + (k : Int)), .slice ta m tc] : List Value).toArray] wc _ from hP)
        have hha : (r.area : Int) ≤ 1 := by have := HA.out; omega
        clear hP har hidx c1 c2 c3 c4 SG4 KK4 HTX4 K4 HTX T5
        obtain ⟨kd, hkd⟩ : ∃ kd, (partB r at' p k).kind = kd := ⟨_, rfl⟩
        rw [hkd] at HP KK5
        clear hkd
        go_upto_region 9 with (first
          | (refine wpList_load_blk (o := ⟨some 53, _, _, _, _, _⟩) 96 (.tmp 14) rfl rfl z _ 96 rfl KK5.out ⟨_, Tryd.underlying96, rfl⟩ size_blk ?_)
          | (go_at_call 90; go_must (refine HP.out.mono ?_; rintro e w7 ⟨rfl, hsg7, hx7⟩; have SG7 := hid hsg7; clear hsg7 hx7)))
        obtain ⟨rc, hrc⟩ : ∃ rc, (putParts s size r at' p (k + 1)).2 = rc := ⟨_, rfl⟩
        rw [hrc]
        have HRC := hid hrc
        clear hrc
        by_cases h0 : rc = 0
        · subst h0
          have R : WsRel w3 B g d q wv s size r at' p (.int .i64 ((k : Int) + 1)) w7 := ⟨k + 1, rfl, by rw [HN.out]; exact hlt, HRC.out, by obtain ⟨v1, h1, h2, h3, _⟩ := SG7.out; exact ⟨v1, h1, h2, h3, by simp⟩⟩
          have HRR := hid R
          clear R
          go_wp2_with fail
          refine ⟨?_, by simp [intOf]; omega⟩
          first | exact HRR.out | ((repeat apply Exists.intro); refine ⟨HRR.out, ?_⟩; and_intros <;> rfl)
        · have h0' : ¬ ((rc : Int) = 0) := by omega
          go_wp2_with fail
          go_ret
          rw [HPP.out, putS_stop (k := k + 1) (by rw [HRC.out]; exact h0) (by rw [HN.out]; exact hlt), HRC.out]
          exact slabTo_later HS.out B13.out SG7.out.out
    · have hlt' : ¬ ((k : Int) < (N : Int)) := by omega
      have hkn : k = npart p.length := by have := HK.out; have := HN.out; omega
      have hfi := sg_flush SGk.out (by have := (putParts_small s size r at' p k).1; have := HST.out; have := HN.out; omega)
      have e1 : putS s size r at' p = flushL (putParts s size r at' p k).1 := by
        unfold putS
        rw [← hkn, thenS_go HZ.out]
      have HE := hid e1
      rw [← e1] at hfi
      have HF := hid hfi
      clear hfi e1 hkn
      go_wp2_with (go_at_call 65; go_must (refine HF.out.mono ?_; rintro e w7 ⟨rfl, hsg7, hx7⟩; have SG7 := hid hsg7; clear hsg7 hx7))
      go_ret
      rw [HPP.out]
      exact slabTo_later HS.out B13.out SG7.out.out
end Go.Proofs.YtoapibbbooongaaDoor
