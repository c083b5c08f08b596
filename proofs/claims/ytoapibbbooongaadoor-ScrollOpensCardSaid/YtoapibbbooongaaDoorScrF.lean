/- The walks of layer 7: a snapshot alone. -/
import Derived.Test.YtoapibbbooongaaDoorScrE
import Derived.Test.YtoapibbbooongaaDoorBlkD
namespace Go.Proofs.YtoapibbbooongaaDoor
open Go.RowKit Go.Quad _root_.Quad _root_.Quad.Slab _root_.Quad.Ink

theorem bl_one {w : World} {Q : Nat → Prop} {a : Option Addr} {n c : Nat} {p : Bytes} (h : BS w a c p) (hn : p.length = n) (hq : InQ Q a) : BL (w.alloc (.cells #[.slice a n c] 33)) (fun k => Q k ∨ k = w.heap.size) (.slice (some ⟨w.heap.size, 0, none⟩) 1 1) [p] := by
  refine ⟨_, 1, [(.slice a n c, p)], rfl, cs_lit w [.slice a n c] 33 1 1 rfl (by simp [maxLen]), rfl, fun x hx => ?_, fun x hx => by cases hx; exact .inr rfl⟩
  rw [List.mem_singleton] at hx
  subst hx
  exact ⟨a, c, by rw [hn], bs_keep h (Chg.of_below [] (below_alloc w _)) (.inr (by simp)), hq.mono fun k h => .inl h⟩
theorem storeB_code (s : Sl) (r : RootD) : (storeB s r).2 ≤ 100 := by
  unfold storeB
  split
  · simp
  · split
    · exact putB_code _ _ _
    · exact flushL_code _
theorem storeB_small (s : Sl) (r : RootD) : (storeB s r).1.steps ≤ s.steps + 2 ∧ (storeB s r).1.way.length ≤ s.way.length + 1 := by
  have h1 := putB_small s (r.turn % 2 : Nat) (rootBlk r)
  have h2 := flushL_small (putB s (r.turn % 2 : Nat) (rootBlk r)).1
  unfold storeB
  split
  · exact ⟨by show s.steps ≤ _; omega, by show s.way.length ≤ _; omega⟩
  · split <;> omega
theorem putS_small (s : Sl) (size : Nat) (r : RootD) (a : Nat) (p : Bytes) : (putS s size r a p).1.steps ≤ s.steps + npart p.length + 1 ∧ (putS s size r a p).1.way.length ≤ s.way.length + npart p.length := by
  have h1 := putParts_small s size r a p (npart p.length)
  have h2 := flushL_small (putParts s size r a p (npart p.length)).1
  unfold putS thenS
  split
  · omega
  · omega
theorem turnR_ok {r : RootD} (h : r.Ok) (ha : r.area ≤ 1) (h1 : r.gen ≠ 4294967295) (h2 : r.turn ≠ 4294967295) : (turnR r).Ok ∧ (turnR r).area ≤ 1 := by
  have := h.turn
  have := h.gen
  exact ⟨⟨by show r.turn + 1 < _; omega, h.epoch, by show r.gen + 1 < _; omega, by show 1 - r.area < 256; omega⟩, by show 1 - r.area ≤ 1; omega⟩
set_option maxRecDepth 100000 in
set_option maxHeartbeats 8000000 in
theorem comp_calls (w : World) (B g d : Nat) (wv : Value) (q : Nat) (Q : Nat → Prop) (sv rv : Value) (ts : List TS) (c : Scr) (_Ql : Nat → Prop) (a : Option Addr) (n cc : Nat) (p : Bytes) (h : ScAt w B g d wv q Q sv rv ts c)
    (hp : BS w a cc p) (hn : p.length = n) (hQl : InQ (fun k => k < w.heap.size ∧ k ∉ scS g d wv q rv) a) (hl : n ≤ 50000) (hq : Laid w) (hB0 : 0 < B) (hst : c.sl.steps + 6000 < 1000000) (hw : c.sl.way.length + 6000 < 1000000) :
    Calls Tryd.prog 42 #[.pointer (some ⟨q, 0, none⟩), .slice a n cc] w (ScTo w B g d wv q Q rv (compS c p).1 (compS c p).2) := by
  have A0 := hid h
  have LQ := hid hQl
  have HNN := hid hn
  have HQ := hid hq
  have HST := hid hst
  have HW := hid hw
  have HP := hid hp
  have hn' : (n : Int) ≤ 50000 := by omega
  have hjl : (joinL [p]).length ≤ 60000 := by
    rw [joinL_cons]
    have := numL_len10 (n := p.length) (by omega)
    unfold textL
    rw [List.length_append, List.length_append]
    show _ + _ + 0 ≤ _
    omega
  have HJL := hid hjl
  have hpn : (partsL [p] : Int) ≤ 4000 := by unfold partsL npart; omega
  have CP := hid (lparts_calls (w.alloc (.cells #[.slice a n cc] 33)) _ _ 1 1 [p] (bl_one hp hn hQl) (fun k hk => by
    rcases hk with hk | hk
    · have := hk.1; simp; omega
    · simp; omega) (fun t ht => by rw [List.mem_singleton] at ht; subst ht; omega) (by omega) (by simp))
  clear h hn hQl hq hst hw hp hjl
  go_enter Tryd.func42, Tryd.ntmps42
  obtain ⟨N, hN⟩ : ∃ N, partsL [p] = N := ⟨_, rfl⟩
  have HN := hid hN
  rw [hN] at CP hpn
  clear hN
  go_upto_region 2 with (go_at_call 41; go_must (refine CP.out.mono ?_; rintro e w1 ⟨rfl, hb⟩; have B1 := hid ((below_alloc w (.cells #[.slice a n cc] 33)).trans (hb.mono (below_alloc w _).size)); clear hb; dsimp only))
  have A1 := hid (A0.out.below B1.out)
  have P1 := hid (HP.out.below B1.out)
  have CR := hid (readyS_calls w1 B g d wv q Q sv rv ts c A1.out.slab A1.out.scr)
  clear CP
  cases hdo : (c.down || c.sl.off) with
  | true =>
    have e1 : readyS c = (downS c true, 13) := by unfold readyS; rw [hdo]; rfl
    have e2 : compS c p = (downS c true, 13) := by unfold compS; rw [hdo]; rfl
    have E2 := hid e2
    unfold ReadySTo at CR
    rw [e1] at CR
    clear e1 e2 hdo
    go_wp2_with (go_at_call 78; go_must (refine CR.out.mono ?_; rintro e w2 ⟨rfl, h2, hc2⟩; have X2 := hid h2; have C2 := hid hc2; clear h2 hc2; dsimp only))
    go_ret
    rw [E2.out]
    have hcc : Chg (scS g d wv q rv) w w2 := (Chg.of_below _ B1.out).trans (C2.out.mono fun k hk => .inl (by rw [List.mem_singleton] at hk; subst hk; simp [scS]))
    exact ⟨rfl, wv, Q, sv, rv, ts, ⟨A1.out.slab.chg C2.out (fun k hk hm => by rw [List.mem_singleton] at hk; exact (A1.out.apart k hm).1 hk), X2.out, A1.out.apart⟩, hcc, fun k hk => .inl hk, fun k hk => .inl hk⟩
  | false =>
    have e1 : readyS c = (c, 0) := by unfold readyS; rw [hdo]; rfl
    have HDO := hid hdo
    unfold ReadySTo at CR
    rw [e1] at CR
    clear e1 hdo
    go_upto_region 3 with (go_at_call 78; go_must (refine CR.out.mono ?_; rintro e w2 ⟨rfl, h2, hc2⟩; have X2 := hid h2; have C2 := hid hc2; clear h2 hc2; dsimp only))
    have A2 := hid (show ScAt w2 B g d wv q Q sv rv ts c from ⟨A1.out.slab.chg C2.out (fun k hk hm => by rw [List.mem_singleton] at hk; exact (A1.out.apart k hm).1 hk), X2.out, A1.out.apart⟩)
    have CC := hid (show Chg (scS g d wv q rv) w w2 from (Chg.of_below _ B1.out).trans (C2.out.mono fun k hk => .inl (by rw [List.mem_singleton] at hk; subst hk; simp [scS])))
    have P2 := hid (bs_keep HP.out CC.out (.inr fun x hx hm => (LQ.out x hx).2 hm))
    have LD := hid (show Laid w2 from HQ.out.below ((CC.out).below (B := 1) (by have := HQ.out.1; omega) (fun k hk => by
      rcases scS_mem hk with h | rfl | h
      · have := (A0.out.slab.in_ge k h).1; omega
      · have := A0.out.scr.ge; omega
      · have := (A0.out.scr.row.ownBlock k h).1; omega)) (by decide))
    clear X2 C2 CR P1 B1 A1
    have q1 := A2.out.scr.own.get 1 rfl
    have q2 := A2.out.scr.own.get 2 rfl
    have q3 := A2.out.scr.own.get 3 rfl
    have q4 := A2.out.scr.own.get 4 rfl
    have q5 := A2.out.scr.own.get 5 rfl
    by_cases hbad : c.size < N ∨ c.root.gen = 4294967295 ∨ c.root.turn = 4294967295
    · have e2 : compS c p = (c, 8) := by unfold compS; rw [HDO.out, if_neg (by simp), HN.out, if_pos hbad]
      have E2 := hid e2
      clear e2
      have FIN := hid (sc_no (r := 8) A0.out A2.out CC.out)
      have hgl : ¬ (4294967296 ≤ (c.root.gen : Int)) := by have := A2.out.scr.ok.root.gen; omega
      have htl : ¬ (4294967296 ≤ (c.root.turn : Int)) := by have := A2.out.scr.ok.root.turn; omega
      have HB3 := hid hbad
      clear hbad
      by_cases hs : c.size < N
      · have hs' : (c.size : Int) < (N : Int) := by omega
        go_wp2_with fail
        go_ret
        rw [E2.out]
        exact FIN.out
      · have hs' : ¬ ((c.size : Int) < (N : Int)) := by omega
        by_cases hg : c.root.gen = 4294967295
        · have hg' : ((c.root.gen : Int) == 4294967295) = true := by rw [hg]; rfl
          clear hg
          go_wp2_with fail
          go_ret
          rw [E2.out]
          exact FIN.out
        · have hg' : ((c.root.gen : Int) == 4294967295) = false := by rw [beq_eq_false_iff_ne]; omega
          have ht' : ((c.root.turn : Int) == 4294967295) = true := by
            rcases HB3.out with h | h | h
            · exact absurd h hs
            · exact absurd h hg
            · rw [h]; rfl
          clear hg
          go_wp2_with fail
          go_ret
          rw [E2.out]
          exact FIN.out
    · have hs : ¬ ((c.size : Int) < (N : Int)) := by omega
      have hg : ¬ (4294967295 ≤ (c.root.gen : Int)) := by have := A2.out.scr.ok.root.gen; omega
      have ht : ¬ (4294967295 ≤ (c.root.turn : Int)) := by have := A2.out.scr.ok.root.turn; omega
      have hg' : ((c.root.gen : Int) == 4294967295) = false := by rw [beq_eq_false_iff_ne]; omega
      have ht' : ((c.root.turn : Int) == 4294967295) = false := by rw [beq_eq_false_iff_ne]; omega
      have HBAD := hid hbad
      have ha1 : (c.root.area : Int) ≤ 1 := by have := A2.out.scr.ok.area; omega
      have hsz : (c.size : Int) ≤ 4096 := by have := A2.out.scr.ok.size; omega
      clear hbad
      obtain ⟨z, hz⟩ : ∃ z, w2.heap.size = z := ⟨_, rfl⟩
      go_upto_region 11 with fail
      obtain ⟨ar, har⟩ : ∃ ar : Nat, 1 - c.root.area = ar := ⟨_, rfl⟩
      rw [show (1 - (c.root.area : Int)) = (ar : Int) from by have := A2.out.scr.ok.area; omega]
      have HAR := hid har
      have b3 := below_alloc w2 (.cells #[.int .u32 ((c.root.turn : Int) + 1), .int .u32 (c.root.epoch : Int), .int .u32 ((c.root.gen : Int) + 1), .int .u8 (ar : Int)] 134)
      have k3 := blk_alloc w2 [.int .u32 ((c.root.turn : Int) + 1), .int .u32 (c.root.epoch : Int), .int .u32 ((c.root.gen : Int) + 1), .int .u8 (ar : Int)] 134
      rw [hz] at k3
      have TR := hid (turnR_ok A2.out.scr.ok.root A2.out.scr.ok.area (fun e => HBAD.out (.inr (.inl e))) (fun e => HBAD.out (.inr (.inr e))))
      have A3 := hid (A2.out.below b3)
      have P3 := hid (P2.out.below b3)
      have CC3 := hid (CC.out.trans (Chg.of_below _ b3))
      have LD3 := hid (LD.out.below b3 LD.out.1)
      have K3 := hid k3
      have ZN := hid (show z ∉ scS g d wv q rv ∧ w.heap.size ≤ z from ⟨fun hm => by
        rcases scS_mem hm with h | h | h
        · have := (A2.out.slab.in_ge _ h).2; omega
        · have := A2.out.scr.own.lt; omega
        · have := (A2.out.scr.row.ownBlock _ h).2; omega, by have := CC.out.size; omega⟩)
      clear b3 k3 har A2 P2 CC LD q1 q2 q3 q4 q5 hz
      generalize (w2.alloc (.cells #[.int .u32 ((c.root.turn : Int) + 1), .int .u32 (c.root.epoch : Int), .int .u32 ((c.root.gen : Int) + 1), .int .u8 (ar : Int)] 134)) = w3 at A3 P3 CC3 LD3 K3 ⊢
      have bd := below_drew w3
      have ba := below_alloc w3 (.cells #[.slice a n cc] 33)
      have bad := below_drew (w3.alloc (.cells #[.slice a n cc] 33))
      have bda := ba.trans (bad.mono ba.size)
      have MKS := hid fun (W : World) (s' : Sl) (b : Bool) (hW : IsScr W B g q Q sv rv ts (downS { c with sl := s' } b)) (hz : Blk W z [.int .u32 ((c.root.turn : Int) + 1), .int .u32 (c.root.epoch : Int), .int .u32 ((c.root.gen : Int) + 1), .int .u8 (ar : Int)] 134) => (show (W.cell? ⟨q, 0, none⟩ = some (.pointer (some ⟨g, 0, none⟩)) ∧ W.cell? ⟨q, 1, none⟩ = some (.int .i64 (c.size : Int)) ∧ ∀ i : Nat, W.cell? ⟨z, i, none⟩ = ([.int .u32 ((c.root.turn : Int) + 1), .int .u32 (c.root.epoch : Int), .int .u32 ((c.root.gen : Int) + 1), .int .u8 (ar : Int)] : List Value)[i]?) from ⟨hW.own.get 0 rfl, hW.own.get 1 rfl, fun i => hz.cell i⟩)
      have S3 := hid (MKS.out w3 c.sl c.down A3.out.scr K3.out)
      have S3d := hid (MKS.out w3.drew c.sl c.down (A3.out.scr.below bd) (K3.out.below bd))
      have S3a := hid (MKS.out _ c.sl c.down (A3.out.scr.below bda) (K3.out.below bda))
      have A3a := hid (A3.out.below bda)
      have K3a := hid (K3.out.below bda)
      have P3a := hid (P3.out.below bda)
      have CC3a := hid (CC3.out.trans (Chg.of_below _ bda))
      have S3l := hid (MKS.out _ c.sl c.down (A3.out.scr.below ba) (K3.out.below ba))
      have BL3a := hid ((bl_one P3.out HNN.out LQ.out).below bad)
      have CW := hid (show Calls Tryd.prog 77 #[.pointer (some ⟨g, 0, none⟩), .int .i64 (c.size : Int), .agg #[.int .u32 ((c.root.turn : Int) + 1), .int .u32 (c.root.epoch : Int), .int .u32 ((c.root.gen : Int) + 1), .int .u8 (ar : Int)], .int .i64 0, .slice (some ⟨w3.heap.size, 0, none⟩) 1 1] (w3.alloc (.cells #[.slice a n cc] 33)).drew (SlabTo (w3.alloc (.cells #[.slice a n cc] 33)).drew B g d wv (putS c.sl c.size (turnR c.root) 0 (joinL [p])).1 (putS c.sl c.size (turnR c.root) 0 (joinL [p])).2) from by
        have h := swrite_calls (w3.alloc (.cells #[.slice a n cc] 33)).drew B g d wv c.sl c.size (turnR c.root) 0 _ _ 1 1 [p] A3a.out.slab TR.out.1 TR.out.2 A3a.out.scr.ok.size (by have := HN.out; have := A3a.out.scr.ok.size; omega) BL3a.out (fun k hk => by
          rcases hk with hk | hk
          · exact Nat.lt_of_lt_of_le hk.1 CC3a.out.size
          · rw [hk]; simp) (fun t ht => by rw [List.mem_singleton] at ht; subst ht; have := HNN.out; omega) (by have := HJL.out; omega) (by simp) (LD3.out.below bda LD3.out.1) hB0 (by have := HST.out; omega) (by have := HW.out; omega)
        rw [show rootV (turnR c.root) = [.int .u32 ((c.root.turn : Int) + 1), .int .u32 (c.root.epoch : Int), .int .u32 ((c.root.gen : Int) + 1), .int .u8 (ar : Int)] from by unfold rootV turnR; dsimp only; rw [HAR.out]; rfl] at h
        exact h)
      have HPC := hid (putS_code c.sl c.size (turnR c.root) 0 (joinL [p]))
      have HPS := hid (putS_small c.sl c.size (turnR c.root) 0 (joinL [p]))
      obtain ⟨P1, hP1⟩ : ∃ P1, putS c.sl c.size (turnR c.root) 0 (joinL [p]) = P1 := ⟨_, rfl⟩
      have HP1 := hid hP1
      rw [hP1] at CW HPC HPS
      clear hP1 bd ba bda bad
      obtain ⟨s1, r1⟩ := P1
      dsimp only at CW HPC HPS
      go_region_held_law (fun W => (W.cell? ⟨q, 0, none⟩ = some (.pointer (some ⟨g, 0, none⟩)) ∧ W.cell? ⟨q, 1, none⟩ = some (.int .i64 (c.size : Int)) ∧ ∀ i : Nat, W.cell? ⟨z, i, none⟩ = ([.int .u32 ((c.root.turn : Int) + 1), .int .u32 (c.root.epoch : Int), .int .u32 ((c.root.gen : Int) + 1), .int .u8 (ar : Int)] : List Value)[i]?))
        ((first | with_reducible exact S3d.out | with_reducible exact S3a.out | with_reducible exact S3l.out | with_reducible exact S5.out | with_reducible exact S4.out | with_reducible exact S3.out))
        (first
          | (go_at_call 79; refine (done_calls w4 B g q Q sv rv ts { c with sl := s1 } r1 HPC.out A4.out.scr).mono ?_; rintro e w5 ⟨rfl, h5, hc5⟩; have K5 := hid (K4.out.keep hc5 (by rw [List.mem_singleton]; exact fun e => ZN.out.1 (by rw [e]; simp [scS]))); have S5 := hid (MKS.out w5 s1 _ h5 K5.out); have X5 := hid h5; have C5 := hid hc5; clear h5 hc5)
          | (go_at_call 77; refine CW.out.mono ?_; rintro e w4 ht; obtain ⟨rfl, wv4, h4, hc4, hin4⟩ := A3a.out.slabbed ht; have K4 := hid (K3a.out.keep hc4 (fun hm => ZN.out.1 (by unfold scS; exact List.mem_append_left _ hm))); have S4 := hid (MKS.out w4 s1 _ h4.scr K4.out); have A4 := hid h4; have C4 := hid hc4; have I4 := hid hin4; clear ht h4 hc4 hin4))
      all_goals
        clear hg ht hs
        have hcd : c.down = false := by have := HDO.out; cases hc : c.down with | false => rfl | true => rw [hc] at this; cases this
        have HCD := hid hcd
        have A5 := hid (show ScAt w5 B g d wv4 q Q sv rv ts (downS { c with sl := s1 } (c.down || decide (r1 ≠ 0))) from ⟨A4.out.slab.chg C5.out (fun k hk hm => by rw [List.mem_singleton] at hk; exact (A4.out.apart k hm).1 hk), X5.out, A4.out.apart⟩)
        have CC5 := hid (show Chg (scS g d wv q rv) w w5 from (CC3a.out.trans (C4.out.mono fun k hk => .inl (by unfold scS; exact List.mem_append_left _ hk))).trans (C5.out.mono fun k hk => .inl (by rw [List.mem_singleton] at hk; subst hk; simp [scS])))
        have IN4 := hid (show ∀ k ∈ slS g d wv4, k ∈ scS g d wv q rv ∨ w.heap.size ≤ k from fun k hk => by
          rcases I4.out k hk with h | h
          · exact .inl (by unfold scS; exact List.mem_append_left _ h)
          · exact .inr (Nat.le_trans CC3a.out.size h))
        have ZN4 := hid (show z ∉ slS g d wv4 from fun hm => by
          rcases I4.out z hm with h | h
          · exact ZN.out.1 (by unfold scS; exact List.mem_append_left _ h)
          · have := K3a.out.lt; omega)
        have P5 := hid (bs_keep HP.out CC5.out (.inr fun x hx hm => (LQ.out x hx).2 hm))
        have LD5 := hid (show Laid w5 from HQ.out.below ((CC5.out).below (B := 1) (by have := HQ.out.1; omega) (fun k hk => by
          rcases scS_mem hk with h | rfl | h
          · have := (A0.out.slab.in_ge k h).1; omega
          · have := A0.out.scr.ge; omega
          · have := (A0.out.scr.row.ownBlock k h).1; omega)) (by decide))
        clear A4 X5 C5 C4 I4 S5 S4 S3d S3 S3a S3l CW A3 CC3 LD3 A3a BL3a CC3a P3a K3a P3 hcd K4 K3
        by_cases h0r : r1 = 0
        · subst h0r
          have A5 := hid (show ScAt w5 B g d wv4 q Q sv rv ts { c with sl := s1 } from by
            have h := A5.out
            rwa [show downS { c with sl := s1 } (c.down || decide ((0 : Nat) ≠ 0)) = { c with sl := s1 } from by unfold downS; simp] at h)
          go_upto_region 14 with fail
          have bd := below_drew w5
          have S5 := hid (MKS.out w5 s1 c.down A5.out.scr K5.out)
          have S5d := hid (MKS.out w5.drew s1 c.down (A5.out.scr.below bd) (K5.out.below bd))
          have A5d := hid (A5.out.below bd)
          have K5d := hid (K5.out.below bd)
          have CC5d := hid (CC5.out.trans (Chg.of_below _ bd))
          have CS := hid (show Calls Tryd.prog 70 #[.pointer (some ⟨g, 0, none⟩), .agg #[.int .u32 ((c.root.turn : Int) + 1), .int .u32 (c.root.epoch : Int), .int .u32 ((c.root.gen : Int) + 1), .int .u8 (ar : Int)]] w5.drew (SlabTo w5.drew B g d wv4 (storeB s1 (turnR c.root)).1 (storeB s1 (turnR c.root)).2) from by
            have h := store_calls w5.drew B g d wv4 s1 (turnR c.root) A5d.out.slab TR.out.1 (LD5.out.below bd LD5.out.1) (by have h1 := HPS.out.1; have := HST.out; have h2 := HN.out; unfold partsL at h2; omega) (by have h1 := HPS.out.2; have := HW.out; have h2 := HN.out; unfold partsL at h2; omega)
            rw [show (#[Value.int .u32 ((turnR c.root).turn : Int), .int .u32 ((turnR c.root).epoch : Int), .int .u32 ((turnR c.root).gen : Int), .int .u8 ((turnR c.root).area : Int)]) = (#[.int .u32 ((c.root.turn : Int) + 1), .int .u32 (c.root.epoch : Int), .int .u32 ((c.root.gen : Int) + 1), .int .u8 (ar : Int)] : Array Value) from by unfold turnR; dsimp only; rw [HAR.out]; rfl] at h
            exact h)
          have HPC2 := hid (storeB_code s1 (turnR c.root))
          obtain ⟨P2, hP2⟩ : ∃ P2, storeB s1 (turnR c.root) = P2 := ⟨_, rfl⟩
          have HP2 := hid hP2
          rw [hP2] at CS HPC2
          clear hP2 bd
          obtain ⟨s2, r2⟩ := P2
          dsimp only at CS HPC2
          go_region_held_law (fun W => (W.cell? ⟨q, 0, none⟩ = some (.pointer (some ⟨g, 0, none⟩)) ∧ W.cell? ⟨q, 1, none⟩ = some (.int .i64 (c.size : Int)) ∧ ∀ i : Nat, W.cell? ⟨z, i, none⟩ = ([.int .u32 ((c.root.turn : Int) + 1), .int .u32 (c.root.epoch : Int), .int .u32 ((c.root.gen : Int) + 1), .int .u8 (ar : Int)] : List Value)[i]?))
            ((first | with_reducible exact S5d.out | with_reducible exact S7.out | with_reducible exact S6.out | with_reducible exact S5.out))
            (first
              | (go_at_call 79; refine (done_calls w6 B g q Q sv rv ts { c with sl := s2 } r2 HPC2.out A6.out.scr).mono ?_; rintro e w7 ⟨rfl, h5, hc5⟩; have K7 := hid (K6.out.keep hc5 (by rw [List.mem_singleton]; exact fun e => ZN.out.1 (by rw [e]; simp [scS]))); have S7 := hid (MKS.out w7 s2 _ h5 K7.out); have X7 := hid h5; have C7 := hid hc5; clear h5 hc5)
              | (go_at_call 70; refine CS.out.mono ?_; rintro e w6 ht; obtain ⟨rfl, wv6, h4, hc4, hin4⟩ := A5d.out.slabbed ht; have K6 := hid (K5d.out.keep hc4 ZN4.out); have S6 := hid (MKS.out w6 s2 _ h4.scr K6.out); have A6 := hid h4; have C6 := hid hc4; have I6 := hid hin4; clear ht h4 hc4 hin4))
          all_goals
            have A7 := hid (show ScAt w7 B g d wv6 q Q sv rv ts (downS { c with sl := s2 } (c.down || decide (r2 ≠ 0))) from ⟨A6.out.slab.chg C7.out (fun k hk hm => by rw [List.mem_singleton] at hk; exact (A6.out.apart k hm).1 hk), X7.out, A6.out.apart⟩)
            have CC7 := hid (show Chg (scS g d wv q rv) w w7 from (chg_next CC5d.out C6.out (fun k hk => IN4.out k hk)).trans (C7.out.mono fun k hk => .inl (by rw [List.mem_singleton] at hk; subst hk; simp [scS])))
            have IN6 := hid (show ∀ k ∈ slS g d wv6, k ∈ scS g d wv q rv ∨ w.heap.size ≤ k from fun k hk => by
              rcases I6.out k hk with h | h
              · exact IN4.out k h
              · exact .inr (Nat.le_trans CC5d.out.size h))
            have P7 := hid (bs_keep HP.out CC7.out (.inr fun x hx hm => (LQ.out x hx).2 hm))
            clear A6 X7 C7 C6 I6 S7 S6 S5d S5 CS A5 CC5 CC5d A5d K6 K5 K5d P5 LD5 MKS
            by_cases h0s : r2 = 0
            · subst h0s
              have A7 := hid (show ScAt w7 B g d wv6 q Q sv rv ts { c with sl := s2 } from by
                have h := A7.out
                rwa [show downS { c with sl := s2 } (c.down || decide ((0 : Nat) ≠ 0)) = { c with sl := s2 } from by unfold downS; simp] at h)
              go_upto_region 17 with fail
              have Z7 := K7.out.cell
              have CCL := hid fun (W : World) (hW : Below w7.heap.size w7 W) => (show Calls Tryd.prog 75 #[.slice a n cc] W (RetB W.heap.size W p) from by
                have h := clone_calls a cc p W (P7.out.below hW) (by have := HNN.out; omega)
                rwa [HNN.out] at h)
              have z0 := K7.out.get 0 rfl
              have z1 := K7.out.get 1 rfl
              have z2 := K7.out.get 2 rfl
              have z3 := K7.out.get 3 rfl
              have zl := K7.out.lt
              go_region_with (go_at_call 75; refine (CCL.out _ (below_drewN (Below.refl _ _) _)).mono ?_; rintro e w8 ⟨v8, rfl, ho8, hb8⟩; have B8 := hid (show Below w7.heap.size w7 w8 from (below_drewN (Below.refl _ _) _).trans (hb8.mono (Nat.le_refl _))); obtain ⟨a8, c8, rfl, hbs8, hof8⟩ := ho8.bs; obtain ⟨n8, hn8⟩ : ∃ n8, p.length = n8 := ⟨_, rfl⟩; rw [hn8]; have N8 := hid hn8; have BS8 := hid hbs8; have OF8 := hid hof8; have K8 := hid (A7.out.scr.own.below B8.out); have d2 := K8.out.get 2 rfl; have d3 := K8.out.get 3 rfl; have d4 := K8.out.get 4 rfl; have d5 := K8.out.get 5 rfl; have d6 := K8.out.get 6 rfl; have d7 := K8.out.get 7 rfl; have d8 := K8.out.get 8 rfl; have f2 := K8.out.free 2; have f3 := K8.out.free 3; have f4 := K8.out.free 4; have f5 := K8.out.free 5; have f6 := K8.out.free 6; have f7 := K8.out.free 7; have f8 := K8.out.free 8; have y0 := (K7.out.below B8.out).get 0 rfl; have y1 := (K7.out.below B8.out).get 1 rfl; have y2 := (K7.out.below B8.out).get 2 rfl; have y3 := (K7.out.below B8.out).get 3 rfl; clear ho8 hb8 hn8 hbs8 hof8; dsimp only)
              all_goals
                have hc9 : Chg [q] w8 (((((((w8.setCell ⟨q, 2, none⟩ (.int .u32 ((c.root.turn : Int) + 1))).setCell ⟨q, 3, none⟩ (.int .u32 (c.root.epoch : Int))).setCell ⟨q, 4, none⟩ (.int .u32 ((c.root.gen : Int) + 1))).setCell ⟨q, 5, none⟩ (.int .u8 (ar : Int))).setCell ⟨q, 6, none⟩ (.int .i64 (N : Int))).setCell ⟨q, 7, none⟩ (.slice a8 n8 c8)).setCell ⟨q, 8, none⟩ (.slice none 0 0)) := (((((((chg_setCell w8 q 2 _).trans (chg_setCell _ q 3 _)).trans (chg_setCell _ q 4 _)).trans (chg_setCell _ q 5 _)).trans (chg_setCell _ q 6 _)).trans (chg_setCell _ q 7 _)).trans (chg_setCell _ q 8 _))
                have K9 := (((((((K8.out.set 2 (.int .u32 ((c.root.turn : Int) + 1))).set 3 (.int .u32 (c.root.epoch : Int))).set 4 (.int .u32 ((c.root.gen : Int) + 1))).set 5 (.int .u8 (ar : Int))).set 6 (.int .i64 (N : Int))).set 7 (.slice a8 n8 c8)).set 8 (.slice none 0 0))
                obtain ⟨w9, hw9⟩ : ∃ w9, (((((((w8.setCell ⟨q, 2, none⟩ (.int .u32 ((c.root.turn : Int) + 1))).setCell ⟨q, 3, none⟩ (.int .u32 (c.root.epoch : Int))).setCell ⟨q, 4, none⟩ (.int .u32 ((c.root.gen : Int) + 1))).setCell ⟨q, 5, none⟩ (.int .u8 (ar : Int))).setCell ⟨q, 6, none⟩ (.int .i64 (N : Int))).setCell ⟨q, 7, none⟩ (.slice a8 n8 c8)).setCell ⟨q, 8, none⟩ (.slice none 0 0)) = w9 := ⟨_, rfl⟩
                rw [hw9] at hc9 K9 ⊢
                clear hw9
                have hc79 : Chg [q] w7 w9 := (Chg.of_below _ B8.out).trans hc9
                have hNle : N ≤ c.size := by
                  have h := HBAD.out
                  omega
                have hql : q < w7.heap.size := A7.out.scr.own.lt
                have hQ8 : ∀ x, a8 = some x → w7.heap.size ≤ x.block ∧ x.block < w8.heap.size := fun x hx => ⟨by have h := (OF8.out x hx).2.2.1; exact h, (OF8.out x hx).2.2.2⟩
                have FIN := hid (show ScTo w B g d wv q Q rv ⟨s2, c.size, turnR c.root, N, p, [], false⟩ 0 (.returned (.int .i64 ((0 : Nat) : Int))) w9 from by
                  refine ⟨rfl, wv6, fun k => w7.heap.size ≤ k ∧ k < w8.heap.size, .slice a8 n8 c8, .slice none 0 0, [], ⟨A7.out.slab.chg hc79 (fun k hk hm => by rw [List.mem_singleton] at hk; exact (A7.out.apart k hm).1 hk), ⟨?_, A7.out.scr.ge, ⟨a8, c8, by rw [N8.out], bs_keep BS8.out hc9 (.inr fun x hx hm => by rw [List.mem_singleton] at hm; have := hQ8 x hx; omega), hQ8⟩, rfl, RO.nil _ _ _ _ _, by simp, fun k hk => ⟨?_, Nat.lt_of_lt_of_le hk.2 hc9.size⟩, fun hk => ?_, by simp [Value.ownBlock], ⟨A7.out.scr.ok.size, hNle, TR.out.1, TR.out.2, by simp, by show p.length ≤ _; have := HNN.out; omega, by simp⟩⟩, fun k hk => ⟨(A7.out.apart k hk).1, fun h => ?_, by simp [Value.ownBlock]⟩⟩, CC7.out.trans (hc79.mono fun k hk => .inl (by rw [List.mem_singleton] at hk; subst hk; simp [scS])), fun k hk => ?_, fun k hk => .inr (Nat.le_trans CC7.out.size hk.1)⟩
                  · unfold scrV
                    unfold turnR
                    dsimp only
                    rw [HAR.out, ← HCD.out]
                    exact K9
                  · have := A7.out.scr.ge; omega
                  · have := hk.1; omega
                  · have := (A7.out.slab.in_ge k hk).2; have := h.1; omega
                  · rcases scS_mem hk with h | rfl | h
                    · exact IN6.out k h
                    · exact .inl (by simp [scS])
                    · simp [Value.ownBlock] at h)
                have e2 : compS c p = (⟨s2, c.size, turnR c.root, N, p, [], false⟩, 0) := by
                  unfold compS
                  rw [HDO.out, if_neg (by simp), if_neg (by rw [HN.out]; exact HBAD.out), HP1.out, thenS_go rfl, HP2.out, if_neg (by simp), HN.out]
                have E2 := hid e2
                clear e2 K9 hc9 hc79 hNle hql hQ8
                go_wp2_with fail
                go_ret
                rw [E2.out]
                exact FIN.out
            · have h0s' : ¬ ((r2 : Int) = 0) := by omega
              have e2 : compS c p = (downS { c with sl := s2 } true, r2) := by
                unfold compS
                rw [HDO.out, if_neg (by simp), if_neg (by rw [HN.out]; exact HBAD.out), HP1.out, thenS_go rfl, HP2.out, if_pos (by simpa using h0s)]
                rfl
              have E2 := hid e2
              clear e2
              go_wp2_with fail
              go_ret
              rw [E2.out]
              have A7' := A7.out
              rw [decide_eq_true h0s, Bool.or_true] at A7'
              exact ⟨rfl, wv6, Q, sv, rv, ts, A7', CC7.out, fun k hk => by
                rcases scS_mem hk with h | rfl | h
                · exact IN6.out k h
                · exact .inl (by simp [scS])
                · exact .inl (by unfold scS; simp [h]), fun k hk => .inl hk⟩
        · have h0r' : ¬ ((r1 : Int) = 0) := by omega
          have e2 : compS c p = (downS { c with sl := s1 } true, r1) := by
            unfold compS
            rw [HDO.out, if_neg (by simp), if_neg (by rw [HN.out]; exact HBAD.out), HP1.out, thenS_stop (by simpa using h0r), if_pos (by simpa using h0r)]
            rfl
          have E2 := hid e2
          clear e2
          go_wp2_with fail
          go_ret
          rw [E2.out]
          have A5' := A5.out
          rw [decide_eq_true h0r, Bool.or_true] at A5'
          exact ⟨rfl, wv4, Q, sv, rv, ts, A5', CC5.out, fun k hk => by
            rcases scS_mem hk with h | rfl | h
            · exact IN4.out k h
            · exact .inl (by simp [scS])
            · exact .inl (by unfold scS; simp [h]), fun k hk => .inl hk⟩
end Go.Proofs.YtoapibbbooongaaDoor
