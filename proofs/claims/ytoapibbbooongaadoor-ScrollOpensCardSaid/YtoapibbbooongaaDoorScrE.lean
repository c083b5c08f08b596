/- The walks of layer 7: a batch is added. -/
import Derived.Test.YtoapibbbooongaaDoorScrD
import Derived.Deep.RegionHeldLaw
import Derived.Deep.RegionLaw
namespace Go.Proofs.YtoapibbbooongaaDoor
open Go.RowKit Go.Quad _root_.Quad _root_.Quad.Slab _root_.Quad.Ink

/-- a scroll and its slab -/
structure ScAt (w : World) (B g d : Nat) (wv : Value) (q : Nat) (Q : Nat → Prop) (sv rv : Value) (ts : List TS) (c : Scr) : Prop where
  slab : IsSlab w B g d wv c.sl
  scr : IsScr w B g q Q sv rv ts c
  apart : ∀ k ∈ slS g d wv, k ≠ q ∧ ¬ Q k ∧ rv.ownBlock ≠ some k
/-- the blocks that a call changes -/
def scS (g d : Nat) (wv : Value) (q : Nat) (rv : Value) : List Nat := slS g d wv ++ q :: rv.ownBlock.toList
theorem scS_mem {g d q k : Nat} {wv rv : Value} (h : k ∈ scS g d wv q rv) : k ∈ slS g d wv ∨ k = q ∨ rv.ownBlock = some k := by
  unfold scS at h
  simp only [List.mem_append, List.mem_cons, Option.mem_toList] at h
  exact h
def ScTo (w : World) (B g d : Nat) (wv : Value) (q : Nat) (Q : Nat → Prop) (rv : Value) (c' : Scr) (r : Nat) (e : Ending) (w' : World) : Prop :=
  e = .returned (.int .i64 (r : Int)) ∧ ∃ wv' Q' sv' rv' ts', ScAt w' B g d wv' q Q' sv' rv' ts' c' ∧ Chg (scS g d wv q rv) w w' ∧ (∀ k ∈ scS g d wv' q rv', k ∈ scS g d wv q rv ∨ w.heap.size ≤ k) ∧ ∀ k, Q' k → Q k ∨ w.heap.size ≤ k
theorem ScAt.below {w w' : World} {B g d : Nat} {wv : Value} {q : Nat} {Q : Nat → Prop} {sv rv : Value} {ts : List TS} {c : Scr} (h : ScAt w B g d wv q Q sv rv ts c) (hb : Below w.heap.size w w') : ScAt w' B g d wv q Q sv rv ts c := ⟨h.slab.below hb, h.scr.below hb, h.apart⟩
/-- the slab goes on -/
theorem ScAt.slabbed {w w' : World} {B g d : Nat} {wv : Value} {q : Nat} {Q : Nat → Prop} {sv rv : Value} {ts : List TS} {c : Scr} {s' : Sl} {r : Nat} {e : Ending} (h : ScAt w B g d wv q Q sv rv ts c) (ht : SlabTo w B g d wv s' r e w') :
    e = .returned (.int .i64 (r : Int)) ∧ ∃ wv', ScAt w' B g d wv' q Q sv rv ts { c with sl := s' } ∧ Chg (slS g d wv) w w' ∧ ∀ k ∈ slS g d wv', k ∈ slS g d wv ∨ w.heap.size ≤ k := by
  obtain ⟨wv', e1, q1, q2, q3⟩ := ht
  have hin : ∀ k ∈ slS g d wv', k ∈ slS g d wv ∨ w.heap.size ≤ k := by
    intro k hk
    rcases slS_mem hk with rfl | rfl | hk
    · exact .inl (by simp [slS])
    · exact .inl (by simp [slS])
    · exact q3 k hk
  have hs := h.scr.keep q2 h.apart
  refine ⟨e1, wv', ⟨q1, hs.slab s', fun k hk => ?_⟩, q2, hin⟩
  rcases hin k hk with h1 | h1
  · exact h.apart k h1
  · refine ⟨fun e => ?_, fun hq => ?_, fun ho => ?_⟩
    · have := h.scr.own.lt; omega
    · have := (h.scr.inQ k hq).2; omega
    · have := (h.scr.row.ownBlock k ho).2; omega
theorem putB_code (s : Sl) (i : Int) (x : BlkD) : (putB s i x).2 ≤ 100 := by
  unfold putB
  split
  · simp
  · split
    · simp
    · split
      · simp
      · unfold writeL
        split
        · unfold hasL; dsimp only; split <;> (try split) <;> (try split) <;> omega
        · dsimp only; split <;> simp
theorem flushL_code (s : Sl) : (flushL s).2 ≤ 100 := by
  unfold flushL
  split
  · simp
  · split <;> simp
theorem putParts_code (s : Sl) (size : Nat) (r : RootD) (a : Nat) (p : Bytes) : ∀ k, (putParts s size r a p k).2 ≤ 100
  | 0 => by simp [putParts]
  | k + 1 => by
    unfold putParts thenS
    split
    · exact putParts_code s size r a p k
    · exact putB_code _ _ _
theorem putS_code (s : Sl) (size : Nat) (r : RootD) (a : Nat) (p : Bytes) : (putS s size r a p).2 ≤ 100 := by
  unfold putS thenS
  split
  · exact putParts_code _ _ _ _ _ _
  · exact flushL_code _
theorem sc_no {w w' : World} {B g d : Nat} {wv : Value} {q : Nat} {Q : Nat → Prop} {sv rv : Value} {ts : List TS} {c : Scr} {r : Nat} (_h : ScAt w B g d wv q Q sv rv ts c) (h' : ScAt w' B g d wv q Q sv rv ts c) (hc : Chg (scS g d wv q rv) w w') : ScTo w B g d wv q Q rv c r (.returned (.int .i64 (r : Int))) w' :=
  ⟨rfl, wv, Q, sv, rv, ts, h', hc, fun _k hk => .inl hk, fun _k hk => .inl hk⟩
def LsOk (l : List Bytes) : Prop := (∀ t ∈ l, t.length ≤ 50000) ∧ (joinL l).length ≤ 400000 ∧ l.length ≤ 1000
set_option maxRecDepth 100000 in
set_option maxHeartbeats 4000000 in
theorem add_calls (w : World) (B g d : Nat) (wv : Value) (q : Nat) (Q : Nat → Prop) (sv rv : Value) (ts : List TS) (c : Scr) (Ql : Nat → Prop) (a : Option Addr) (n cc : Nat) (l : List Bytes) (h : ScAt w B g d wv q Q sv rv ts c)
    (hl : BL w Ql (.slice a n cc) l) (hQl : ∀ k, Ql k → k < w.heap.size ∧ k ∉ scS g d wv q rv) (hok : LsOk l) (hfew : c.recs.length + l.length ≤ 1000000) (hq : Laid w) (hB0 : 0 < B) (hst : c.sl.steps + 5000 < 1000000) (hw : c.sl.way.length + 5000 < 1000000) :
    Calls Tryd.prog 40 #[.pointer (some ⟨q, 0, none⟩), .slice a n cc] w (ScTo w B g d wv q Q rv (addS c l).1 (addS c l).2) := by
  have A0 := hid h
  have LQ := hid hQl
  have OK := hid hok
  have FEW := hid hfew
  have HQ := hid hq
  have HST := hid hst
  have HW := hid hw
  obtain rfl : n = l.length := hl.len.1
  have hn : (l.length : Int) ≤ 1000 := by have := hok.2.2; omega
  have CP := hid (lparts_calls w Ql a l.length cc l hl (fun k hk => (hQl k hk).1) hok.1 (by have := hok.2.1; omega) (by have := hok.2.2; omega))
  have BLL := hid hl
  have hpn : (partsL l : Int) ≤ 4000 := by have := hok.2.1; unfold partsL npart; omega
  clear h hl hQl hok hfew hq hst hw
  go_enter Tryd.func40, Tryd.ntmps40
  obtain ⟨N, hN⟩ : ∃ N, partsL l = N := ⟨_, rfl⟩
  have HN := hid hN
  rw [hN] at CP hpn
  clear hN
  go_upto_region 2 with (go_at_call 41; go_must (refine CP.out.mono ?_; rintro e w1 ⟨rfl, hb⟩; have B1 := hid hb; clear hb; dsimp only))
  have A1 := hid (A0.out.below B1.out)
  have BL1 := hid (BLL.out.below B1.out)
  have CR := hid (readyS_calls w1 B g d wv q Q sv rv ts c A1.out.slab A1.out.scr)
  clear CP BLL
  cases hdo : (c.down || c.sl.off) with
  | true =>
    have e1 : readyS c = (downS c true, 13) := by unfold readyS; rw [hdo]; rfl
    have e2 : addS c l = (downS c true, 13) := by unfold addS; rw [hdo]; rfl
    have E2 := hid e2
    unfold ReadySTo at CR
    rw [e1] at CR
    clear e1 e2 hdo
    go_wp2_with (go_at_call 78; go_must (refine CR.out.mono ?_; rintro e w2 ⟨rfl, h2, hc2⟩; have X2 := hid h2; have C2 := hid hc2; clear h2 hc2; dsimp only))
    go_ret
    rw [E2.out]
    have hcc : Chg (scS g d wv q rv) w w2 := (Chg.of_below _ B1.out).trans (C2.out.mono fun k hk => .inl (by rw [List.mem_singleton] at hk; subst hk; simp [scS]))
    exact ⟨rfl, wv, Q, sv, rv, ts, ⟨A1.out.slab.chg C2.out (fun k hk hm => by rw [List.mem_singleton] at hk; exact (A1.out.apart k hm).1 hk), X2.out, A1.out.apart⟩, hcc, fun k hk => .inl hk, fun k hk => .inl hk⟩
  | false =>
    have e1 : readyS c = (c, 0) := by unfold readyS; rw [hdo]; rfl
    have HDO := hid hdo
    unfold ReadySTo at CR
    rw [e1] at CR
    clear e1 hdo
    go_upto_region 3 with (go_at_call 78; go_must (refine CR.out.mono ?_; rintro e w2 ⟨rfl, h2, hc2⟩; have X2 := hid h2; have C2 := hid hc2; clear h2 hc2; dsimp only))
    have A2 := hid (show ScAt w2 B g d wv q Q sv rv ts c from ⟨A1.out.slab.chg C2.out (fun k hk hm => by rw [List.mem_singleton] at hk; exact (A1.out.apart k hm).1 hk), X2.out, A1.out.apart⟩)
    have CC := hid (show Chg (scS g d wv q rv) w w2 from (Chg.of_below _ B1.out).trans (C2.out.mono fun k hk => .inl (by rw [List.mem_singleton] at hk; subst hk; simp [scS])))
    have BL2 := hid (BL1.out.keep (Q' := Ql) C2.out (fun k hk hq => (LQ.out k hq).2 (by rw [List.mem_singleton] at hk; subst hk; simp [scS])) (fun _ h => h))
    have LD := hid (show Laid w2 from HQ.out.below ((CC.out).below (B := 1) (by have := HQ.out.1; omega) (fun k hk => by
      rcases scS_mem hk with h | rfl | h
      · have := (A0.out.slab.in_ge k h).1; omega
      · have := A0.out.scr.ge; omega
      · have := (A0.out.scr.row.ownBlock k h).1; omega)) (by decide))
    clear X2 C2 CR BL1 B1 A1
    by_cases h0 : l.length = 0
    · have e2 : addS c l = (c, 1) := by unfold addS; rw [HDO.out, if_neg (by simp), if_pos h0]
      have h0' : (l.length : Int) = 0 := by omega
      have E2 := hid e2
      clear e2
      go_wp2_with fail
      go_ret
      rw [E2.out]
      exact sc_no A0.out A2.out CC.out
    · have h0' : ¬ ((l.length : Int) = 0) := by omega
      have CL := hid (leftS_calls w2 B g q Q sv rv ts c A2.out.scr)
      have hsz := A2.out.scr.ok.size
      obtain ⟨F, hF⟩ : ∃ F, c.size - c.next = F := ⟨_, rfl⟩
      have HF := hid hF
      rw [hF] at CL
      have hF2 : (F : Int) ≤ 4096 := by omega
      have HSZ := hid hsz
      clear hF hsz
      go_upto_if 20 with (go_at_call 37; go_must (refine CL.out.mono ?_; rintro e w3 ⟨rfl, hb⟩; have B3 := hid hb; clear hb; dsimp only))
      have A3 := hid (A2.out.below B3.out)
      have CC3 := hid (CC.out.trans (Chg.of_below _ B3.out))
      have BL3 := hid (BL2.out.below B3.out)
      have LD3 := hid (LD.out.below B3.out LD.out.1)
      by_cases hfu : F < N
      · have hfu' : (F : Int) < (N : Int) := by omega
        have e2 : addS c l = (c, 8) := by unfold addS; rw [HDO.out, if_neg (by simp), if_neg h0, if_pos (by rw [HN.out, HF.out]; exact hfu)]
        have E2 := hid e2
        clear e2
        go_wp2_with fail
        go_ret
        rw [E2.out]
        exact sc_no A0.out A3.out CC3.out
      · have hfu' : ¬ ((F : Int) < (N : Int)) := by omega
        go_upto_region 9 with fail
        clear A2 CC BL2 LD CL B3
        have bd := below_drew w3
        have A3d := hid (A3.out.below bd)
        have BL3d := hid (BL3.out.below bd)
        have CC3d := hid (CC3.out.trans (Chg.of_below _ bd))
        have LD3d := hid (LD3.out.below bd LD3.out.1)
        clear bd
        have MKS := hid fun (W : World) (s' : Sl) (b : Bool) (hW : IsScr W B g q Q sv rv ts (downS { c with sl := s' } b)) => (show (W.cell? ⟨q, 0, none⟩ = some (.pointer (some ⟨g, 0, none⟩)) ∧ W.cell? ⟨q, 1, none⟩ = some (.int .i64 (c.size : Int)) ∧ W.cell? ⟨q, 2, none⟩ = some (.int .u32 (c.root.turn : Int)) ∧ W.cell? ⟨q, 3, none⟩ = some (.int .u32 (c.root.epoch : Int)) ∧ W.cell? ⟨q, 4, none⟩ = some (.int .u32 (c.root.gen : Int)) ∧ W.cell? ⟨q, 5, none⟩ = some (.int .u8 (c.root.area : Int)) ∧ W.cell? ⟨q, 6, none⟩ = some (.int .i64 (c.next : Int))) from ⟨hW.own.get 0 rfl, hW.own.get 1 rfl, hW.own.get 2 rfl, hW.own.get 3 rfl, hW.own.get 4 rfl, hW.own.get 5 rfl, hW.own.get 6 rfl⟩)
        have S3d := hid (MKS.out w3.drew c.sl c.down A3d.out.scr)
        have S3 := MKS.out w3 c.sl c.down A3.out.scr
        have CW := hid (show Calls Tryd.prog 77 #[.pointer (some ⟨g, 0, none⟩), .int .i64 (c.size : Int), .agg #[.int .u32 (c.root.turn : Int), .int .u32 (c.root.epoch : Int), .int .u32 (c.root.gen : Int), .int .u8 (c.root.area : Int)], .int .i64 (c.next : Int), .slice a l.length cc] w3.drew (SlabTo w3.drew B g d wv (putS c.sl c.size c.root c.next (joinL l)).1 (putS c.sl c.size c.root c.next (joinL l)).2) from
          swrite_calls w3.drew B g d wv c.sl c.size c.root c.next Ql a l.length cc l A3d.out.slab A3d.out.scr.ok.root A3d.out.scr.ok.area A3d.out.scr.ok.size (by have := HN.out; have := HF.out; have := A3d.out.scr.ok.next; have := A3d.out.scr.ok.size; omega) BL3d.out (fun k hk => Nat.lt_of_lt_of_le (LQ.out k hk).1 CC3d.out.size) OK.out.1 (by have := OK.out.2.1; omega) (by have := OK.out.2.2; omega) LD3d.out hB0 HST.out HW.out)
        have HPC := hid (putS_code c.sl c.size c.root c.next (joinL l))
        obtain ⟨P1, hP1⟩ : ∃ P1, putS c.sl c.size c.root c.next (joinL l) = P1 := ⟨_, rfl⟩
        have HP1 := hid hP1
        rw [hP1] at CW HPC
        clear hP1
        obtain ⟨s1, r1⟩ := P1
        dsimp only at CW HPC
        go_region_held_law (fun W => (W.cell? ⟨q, 0, none⟩ = some (.pointer (some ⟨g, 0, none⟩)) ∧ W.cell? ⟨q, 1, none⟩ = some (.int .i64 (c.size : Int)) ∧ W.cell? ⟨q, 2, none⟩ = some (.int .u32 (c.root.turn : Int)) ∧ W.cell? ⟨q, 3, none⟩ = some (.int .u32 (c.root.epoch : Int)) ∧ W.cell? ⟨q, 4, none⟩ = some (.int .u32 (c.root.gen : Int)) ∧ W.cell? ⟨q, 5, none⟩ = some (.int .u8 (c.root.area : Int)) ∧ W.cell? ⟨q, 6, none⟩ = some (.int .i64 (c.next : Int))))
          ((first | with_reducible exact S3d.out | with_reducible exact S5.out | with_reducible exact S4.out | with_reducible exact S3))
          (first
            | (go_at_call 79; refine (done_calls w4 B g q Q sv rv ts { c with sl := s1 } r1 HPC.out A4.out.scr).mono ?_; rintro e w5 ⟨rfl, h5, hc5⟩; have S5 := hid (MKS.out w5 s1 _ h5); have X5 := hid h5; have C5 := hid hc5; clear h5 hc5)
            | (go_at_call 77; refine CW.out.mono ?_; rintro e w4 ht; obtain ⟨rfl, wv4, h4, hc4, hin4⟩ := A3d.out.slabbed ht; have S4 := hid (MKS.out w4 s1 _ h4.scr); have A4 := hid h4; have C4 := hid hc4; have I4 := hid hin4; clear ht h4 hc4 hin4))
        have A5 := hid (show ScAt w5 B g d wv4 q Q sv rv ts (downS { c with sl := s1 } (c.down || decide (r1 ≠ 0))) from ⟨A4.out.slab.chg C5.out (fun k hk hm => by rw [List.mem_singleton] at hk; exact (A4.out.apart k hm).1 hk), X5.out, A4.out.apart⟩)
        have CC5 := hid (show Chg (scS g d wv q rv) w w5 from (CC3d.out.trans (C4.out.mono fun k hk => .inl (by unfold scS; exact List.mem_append_left _ hk))).trans (C5.out.mono fun k hk => .inl (by rw [List.mem_singleton] at hk; subst hk; simp [scS])))
        have IN4 := hid (show ∀ k ∈ slS g d wv4, k ∈ scS g d wv q rv ∨ w.heap.size ≤ k from fun k hk => by
          rcases I4.out k hk with h | h
          · exact .inl (by unfold scS; exact List.mem_append_left _ h)
          · exact .inr (Nat.le_trans CC3d.out.size h))
        have hcd : c.down = false := by have := HDO.out; cases hc : c.down with | false => rfl | true => rw [hc] at this; cases this
        have HCD := hid hcd
        have BL5 := hid (show BL w5 Ql (.slice a l.length cc) l from (BL3d.out.keep (Q' := Ql) C4.out (fun k hk hq => (LQ.out k hq).2 (by unfold scS; exact List.mem_append_left _ hk)) (fun _ h => h)).keep C5.out (fun k hk hq => (LQ.out k hq).2 (by rw [List.mem_singleton] at hk; subst hk; simp [scS])) (fun _ h => h))
        clear A4 X5 C5 C4 I4 S5 S4 S3d S3 CW MKS A3 CC3 BL3 LD3 A3d BL3d CC3d LD3d hcd
        by_cases h0r : r1 = 0
        · subst h0r
          have A5 := hid (show ScAt w5 B g d wv4 q Q sv rv ts { c with sl := s1 } from by
            have h := A5.out
            rwa [show downS { c with sl := s1 } (c.down || decide ((0 : Nat) ≠ 0)) = { c with sl := s1 } from by unfold downS; simp] at h)
          have e6 := A5.out.scr.own.get 6 rfl
          have f6 := A5.out.scr.own.free 6
          have hnx : (c.next : Int) ≤ 4096 := by have := A5.out.scr.ok.next; have := A5.out.scr.ok.size; dsimp only at *; omega
          dsimp only at e6
          go_upto_region 13 with fail
          have K6 := A5.out.scr.own.set 6 (.int .i64 ((c.next : Int) + (N : Int)))
          have hc6 := chg_setCell w5 q 6 (.int .i64 ((c.next : Int) + (N : Int)))
          have hq6 : ∀ k ∈ [q], ¬ Q k ∧ rv.ownBlock ≠ some k := fun k hk => by rw [List.mem_singleton] at hk; subst hk; exact ⟨A5.out.scr.nq, fun ho => (A5.out.scr.no _ ho).2 rfl⟩
          have K6 := hid (show Blk (w5.setCell ⟨q, 6, none⟩ (.int .i64 ((c.next : Int) + (N : Int)))) q [.pointer (some ⟨g, 0, none⟩), .int .i64 (c.size : Int), .int .u32 (c.root.turn : Int), .int .u32 (c.root.epoch : Int), .int .u32 (c.root.gen : Int), .int .u8 (c.root.area : Int), .int .i64 ((c.next : Int) + (N : Int)), sv, rv, .bool c.down] 138 from K6)
          have S6 := hid (A5.out.slab.chg hc6 (fun k hk hm => by rw [List.mem_singleton] at hk; exact (A5.out.apart k hm).1 hk))
          have T6 := hid (A5.out.scr.snap.keep hc6 (fun k hk => (hq6 k hk).1) (fun _ h => h))
          have R6 := hid (A5.out.scr.row.chg hc6 (fun k hk hm => (hq6 k hm).2 hk))
          have X6 := hid (show ∀ t ∈ ts, BS (w5.setCell ⟨q, 6, none⟩ (.int .i64 ((c.next : Int) + (N : Int)))) t.a t.c t.p ∧ InQ Q t.a from fun t ht => ⟨bs_keep (A5.out.scr.tx t ht).1 hc6 (.inr fun x hx hm => (hq6 _ hm).1 ((A5.out.scr.tx t ht).2 x hx)), (A5.out.scr.tx t ht).2⟩)
          have CC6 := hid (CC5.out.trans (hc6.mono fun k hk => .inl (by rw [List.mem_singleton] at hk; subst hk; simp [scS])))
          have BL6 := hid (BL5.out.keep (Q' := Ql) hc6 (fun k hk hq => (LQ.out k hq).2 (by rw [List.mem_singleton] at hk; subst hk; simp [scS])) (fun _ h => h))
          have SZ6 := hid hc6.size
          clear e6 f6 hc6
          obtain ⟨ra, rn, rcp, hrv, hrn, _, _⟩ := A5.out.scr.row.cs
          subst hrv
          generalize (w5.setCell ⟨q, 6, none⟩ (.int .i64 ((c.next : Int) + (N : Int)))) = w6 at K6 S6 T6 R6 X6 CC6 BL6 SZ6 ⊢
          have bd := below_drew w6
          have k8 := K6.out.get 8 rfl
          have f8 := K6.out.free 8
          have CPY := hid (copies_calls w6.drew Ql a l.length cc l (BL6.out.below bd) (by have := OK.out.2.2; omega) (fun b hb => by have := OK.out.1 b hb; omega))
          have S8d := hid (show w6.drew.cell? ⟨q, 8, none⟩ = some (.slice ra rn rcp) from (K6.out.below bd).get 8 rfl)
          have HTL := hid (show ts.length + l.length ≤ 1000000 from by have h1 := FEW.out; have h2 := congrArg List.length A5.out.scr.recs; rw [List.length_map] at h2; dsimp only at h2; omega)
          have RBD := hid (show B ≤ w6.heap.size from Nat.le_trans A5.out.scr.ge (Nat.le_of_lt K6.out.lt))
          clear bd
          have d8 := S8d.out
          have g8 := (K6.out.below (below_drew w6)).free 8
          go_region_law
            (first
              | (refine step_ok rfl ?_; refine opOk_call (f := 76) (args := #[.slice a l.length cc]) ?_ ?_; (focus (go_simp; done)); refine CPY.out.mono ?_; rintro e w7 ⟨ts2, bv, rfl, ht1, ht2, hb7⟩; refine ⟨bv, rfl, ?_⟩; obtain ⟨a7, n7, c7, rfl, hn7, hnc7, hcs7⟩ := ht2.rb.cs; have H1 := hid ht1; have H2 := hid ht2; have H3 := hid hb7; have N7 := hid hn7; have NC7 := hid hnc7; have CS7 := hid hcs7; have K7 := hid ((K6.out.below (below_drew w6)).below hb7); have s7 := K7.out.get 8 rfl; have i7 := K7.out.free 8; clear ht1 ht2 hb7 hn7 hnc7 hcs7)
              | (refine step_ok rfl ?_; refine opOk_append_ro tsV_length tsV_one (by decide) (.tmp 60) (.tmp 62) _ rfl B 33 _ 24 info_slb rfl under_slbs _ ts ((R6.out.below (below_drew w6)).below H3.out) rfl (l' := ts2) N7.out CS7.out (by first | exact NC7.out | (rw [← N7.out]; exact NC7.out)) rfl (by have h1 := HTL.out; have h2 := congrArg List.length H1.out; rw [List.length_map] at h2; omega) (Nat.le_trans RBD.out (Nat.le_trans (below_drew w6).size H3.out.size)) ?_; intro v8 w8 ho8 hg8 hv8; obtain ⟨a8, n8, c8, rfl, _, _, _⟩ := ho8.cs; have O8 := hid ho8; have G8 := hid hg8; have V8 := hid hv8; have K8 := hid (((K6.out.below (below_drew w6)).below H3.out).keep (chg_grown hg8) (fun hm => (hq6 q (by simp)).2 (by simpa using hm))); have j8 := K8.out.get 8 rfl; have i8 := K8.out.free 8; clear ho8 hg8 hv8))
          all_goals
            have hb67 : Below w6.heap.size w6 w7 := (below_drew w6).trans (H3.out.mono (below_drew w6).size)
            have hs6 : w6.drew.heap.size = w6.heap.size := rfl
            have hc8 := chg_setCell w8 q 8 (.slice a8 n8 c8)
            have C69 : Chg (q :: (Value.slice ra rn rcp).ownBlock.toList) w6 (w8.setCell ⟨q, 8, none⟩ (.slice a8 n8 c8)) := ((Chg.of_below _ hb67).trans ((chg_grown G8.out).mono fun k hk => .inl (List.mem_cons_of_mem _ hk))).trans (hc8.mono fun k hk => .inl (by rw [List.mem_singleton] at hk; subst hk; simp))
            have hS69 : ∀ k ∈ (q :: (Value.slice ra rn rcp).ownBlock.toList), k = q ∨ (Value.slice ra rn rcp).ownBlock = some k := fun k hk => by
              rcases List.mem_cons.1 hk with h | h
              · exact .inl h
              · exact .inr (by simpa using h)
            have hown : ∀ k, (Value.slice ra rn rcp).ownBlock = some k → k < w6.heap.size := fun k hk => (R6.out.ownBlock k hk).2
            have hq6' : q < w6.heap.size := K6.out.lt
            have hnQ : ∀ k ∈ (q :: (Value.slice ra rn rcp).ownBlock.toList), ¬ Q k := fun k hk => by
              rcases hS69 k hk with rfl | h
              · exact A5.out.scr.nq
              · exact (A5.out.scr.no k h).1
            have hV8 : ∀ k, (Value.slice a8 n8 c8).ownBlock = some k → (Value.slice ra rn rcp).ownBlock = some k ∨ w7.heap.size ≤ k := fun k hk => by
              rcases V8.out with h | h
              · exact .inl (h ▸ hk)
              · rw [h] at hk; cases hk; exact .inr (Nat.le_refl _)
            have hAP := A5.out.apart
            have hscr : IsScr (w8.setCell ⟨q, 8, none⟩ (.slice a8 n8 c8)) B g q (fun k => Q k ∨ (w6.heap.size ≤ k ∧ k < w7.heap.size)) sv (.slice a8 n8 c8) (ts ++ ts2) { c with sl := s1, next := c.next + N, recs := c.recs ++ l } := by
              refine ⟨K8.out.set 8 (.slice a8 n8 c8), A5.out.scr.ge, T6.out.keep C69 hnQ (fun k h => .inl h), ?_, O8.out.chg hc8 (fun k hk hm => ?_), fun t ht => ?_, fun k hk => ?_, ?_, fun k hk => ?_, ?_⟩
              · rw [List.map_append, H1.out, A5.out.scr.recs]
              · rw [List.mem_singleton] at hm
                rcases hV8 k hk with h | h
                · exact (A5.out.scr.no k h).2 hm
                · have := hb67.size; omega
              · rcases List.mem_append.1 ht with h | h
                · exact ⟨bs_keep (X6.out t h).1 C69 (.inr fun x hx hm => hnQ _ hm ((X6.out t h).2 x hx)), (X6.out t h).2.mono fun k h => .inl h⟩
                · obtain ⟨q1, q2⟩ := H2.out.tx t h
                  refine ⟨bs_keep (bs_keep q1 (chg_grown G8.out) (.inr fun x hx hm => by have h1 := (q2 x hx).1; have h2 := hown x.block (by simpa using hm); rw [hs6] at h1; omega)) hc8 (.inr fun x hx hm => by have h1 := (q2 x hx).1; rw [List.mem_singleton] at hm; rw [hs6] at h1; omega), fun x hx => .inr ⟨(q2 x hx).1, (q2 x hx).2.1⟩⟩
              · rcases hk with h | h
                · exact ⟨(A5.out.scr.inQ k h).1, Nat.lt_of_lt_of_le (A5.out.scr.inQ k h).2 (Nat.le_trans SZ6.out C69.size)⟩
                · exact ⟨Nat.le_trans RBD.out h.1, Nat.lt_of_lt_of_le h.2 (Nat.le_trans (chg_grown G8.out).size hc8.size)⟩
              · rintro (h | h)
                · exact A5.out.scr.nq h
                · omega
              · rcases hV8 k hk with h | h
                · refine ⟨?_, (A5.out.scr.no k h).2⟩
                  rintro (h1 | h1)
                  · exact (A5.out.scr.no k h).1 h1
                  · have := hown k h; omega
                · refine ⟨?_, by have := hb67.size; omega⟩
                  rintro (h1 | h1)
                  · have := (A5.out.scr.inQ k h1).2; have := SZ6.out; have := hb67.size; omega
                  · omega
              · have o := A5.out.scr.ok
                exact ⟨o.size, by show c.next + N ≤ c.size; have := HF.out; have := o.next; dsimp only at this; omega, o.root, o.area, by show (c.recs ++ l).length ≤ _; rw [List.length_append]; exact FEW.out, o.small, fun t ht => by
                  rcases List.mem_append.1 ht with h | h
                  · exact o.smalls t h
                  · have := OK.out.1 t h; omega⟩
            have hsc : ScAt (w8.setCell ⟨q, 8, none⟩ (.slice a8 n8 c8)) B g d wv4 q (fun k => Q k ∨ (w6.heap.size ≤ k ∧ k < w7.heap.size)) sv (.slice a8 n8 c8) (ts ++ ts2) { c with sl := s1, next := c.next + N, recs := c.recs ++ l } := by
              refine ⟨S6.out.chg C69 (fun k hk hm => ?_), hscr, fun k hk => ⟨(hAP k hk).1, ?_, fun ho => ?_⟩⟩
              · rcases hS69 k hk with rfl | h
                · exact (hAP _ hm).1 rfl
                · exact (hAP k hm).2.2 h
              · rintro (h | h)
                · exact (hAP k hk).2.1 h
                · have := (S6.out.in_ge k hk).2; omega
              · rcases hV8 k ho with h | h
                · exact (hAP k hk).2.2 h
                · have := (S6.out.in_ge k hk).2; have := hb67.size; omega
            have hsz : w.heap.size ≤ w6.heap.size := CC6.out.size
            have FIN := hid (show ScTo w B g d wv q Q (.slice ra rn rcp) { c with sl := s1, next := c.next + N, recs := c.recs ++ l } 0 (.returned (.int .i64 ((0 : Nat) : Int))) (w8.setCell ⟨q, 8, none⟩ (.slice a8 n8 c8)) from ⟨rfl, wv4, _, sv, _, _, hsc, CC6.out.trans (C69.mono fun k hk => .inl (by
                rcases hS69 k hk with rfl | h
                · simp [scS]
                · unfold scS; simp [h])), fun k hk => by
                rcases scS_mem hk with h | rfl | h
                · exact IN4.out k h
                · exact .inl (by simp [scS])
                · rcases hV8 k h with h | h
                  · exact .inl (by unfold scS; simp [h])
                  · exact .inr (by have := hb67.size; omega), fun k hk => by
                rcases hk with h | h
                · exact .inl h
                · exact .inr (by omega)⟩)
            have e2 : addS c l = ({ c with sl := s1, next := c.next + N, recs := c.recs ++ l }, 0) := by
              unfold addS
              rw [HDO.out, if_neg (by simp), if_neg h0, if_neg (by rw [HN.out, HF.out]; exact hfu), HP1.out, if_neg (by simp), HN.out]
            have E2 := hid e2
            clear e2 hsc hscr C69 hc8 hS69 hown hq6' hnQ hV8 hAP hsz hs6 hb67
            go_wp2_with fail
            go_ret
            rw [E2.out]
            exact FIN.out
        · have h0r' : ¬ ((r1 : Int) = 0) := by omega
          have e2 : addS c l = (downS { c with sl := s1 } true, r1) := by
            unfold addS
            rw [HDO.out, if_neg (by simp), if_neg h0, if_neg (by rw [HN.out, HF.out]; exact hfu), HP1.out, if_pos (by simpa using h0r)]
            rfl
          have E2 := hid e2
          clear e2
          go_wp2_with fail
          go_ret
          rw [E2.out]
          have A5' := A5.out
          rw [decide_eq_true h0r, Bool.or_true] at A5'
          exact ⟨rfl, wv4, Q, sv, rv, ts, A5', CC5.out, fun k hk => by
            rcases scS_mem hk with h | rfl | h
            · exact IN4.out k h
            · exact .inl (by simp [scS])
            · exact .inl (by unfold scS; simp [h]), fun k hk => .inl hk⟩
end Go.Proofs.YtoapibbbooongaaDoor
