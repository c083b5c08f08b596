/- BlockPlays: every script of blocks, roots, raw sectors, power and crashes has the document's answers. -/
import Derived.Test.YtkaidbfpgdfpfaaDoorBlkP
import Derived.Deep.CutRange
import Derived.Deep.CutBlock
import Derived.Deep.DeepMust
namespace Go.Proofs.YtkaidbfpgdfpfaaDoor
open Go.RowKit Go.Quad _root_.Quad _root_.Quad.Slab

theorem pmin130 (n : Nat) : (if 130 < (n : Int) then 130 else (n : Int)) = ((min n 130 : Nat) : Int) := by split <;> omega
def zroot : Array Value := #[.int .u32 0, .int .u32 0, .int .u32 0, .int .u8 0]
theorem info_root : (Tryd.prog.info? 67).map (fun i => (i.zero, i.size)) = some (some (.agg zroot), 4) := by kernel_rfl
theorem info_rroot : (Tryd.prog.info? 61).map (fun i => (i.zero, i.size)) = some (some (.agg zroot), 4) := by kernel_rfl
theorem eqg_rroot (r q : RootD) (x y : Tmp) (w : World) : (eqGuard .eql 61 (.tmp x) (.tmp y) (.agg (rootV r).toArray) (.agg (rootV q).toArray)).run Tryd.prog w = .ok () w := by
  simp only [rootV]
  go_simp
theorem eq_rroot (r q : RootD) (w : World) : (binOp .eql 61 (.agg (rootV r).toArray) (.agg (rootV q).toArray)).run Tryd.prog w = .ok (.bool (rootEq r q)) w := by
  simp only [rootV, rootEq]
  go_simp
  have h1 : ((r.turn : Int) = q.turn) = (r.turn = q.turn) := propext (by omega)
  have h2 : ((r.epoch : Int) = q.epoch) = (r.epoch = q.epoch) := propext (by omega)
  have h3 : ((r.gen : Int) = q.gen) = (r.gen = q.gen) := propext (by omega)
  have h4 : ((r.area : Int) = q.area) = (r.area = q.area) := propext (by omega)
  simp only [h1, h2, h3, h4]
  by_cases c1 : r.turn = q.turn
  · by_cases c2 : r.epoch = q.epoch
    · by_cases c3 : r.gen = q.gen
      · by_cases c4 : r.area = q.area
        · simp [c1, c2, c3, c4]
        · simp [c1, c2, c3, c4]
      · simp [c1, c2, c3]
    · simp [c1, c2]
  · simp [c1]
set_option maxRecDepth 100000 in
set_option maxHeartbeats 20000000 in
theorem blockPlays_walk (n : Int) (a1 : Bool) (v2 : Value) (w : World) (hn : (Lit.int .u8 n).wf = true) (h2 : RV Tryd.prog w 56 v2) (hq : Laid w) :
    Calls Tryd.prog 7 #[.int .u8 n, .bool a1, v2] w fun e w' => e = .returned (.bool true) ∧ Below w.heap.size w w' := by
  obtain ⟨a0, c0, l0, rfl, hok0, hcs0, hlc0⟩ := bops_open h2
  obtain ⟨n0, rfl, hn0⟩ := un8 hn
  have m0 : l0.length ≤ 9223372036854775807 := by have := hcs0.max; unfold maxLen at this; omega
  have Hok := hid hok0
  have Hcs := hid hcs0
  have HQ := hid hq
  have hn0' : (n0 : Int) ≤ 255 := by omega
  obtain ⟨nn, hnn, hnn2⟩ : ∃ nn : Nat, 1 + (n0 : Int) % 6 = (nn : Int) ∧ (1 ≤ nn ∧ nn ≤ 6) := ⟨1 + n0 % 6, by omega, by omega⟩
  have HN := hid hnn
  clear h2 hn hok0 hcs0 hq hlc0 hnn hn0
  go_enter Tryd.func7, Tryd.ntmps7
  go_wp2_with fail
  refine (bawake_calls w HQ.out).mono ?_
  rintro e w1 ⟨rfl, hb1⟩
  have B1 := hid hb1
  clear hb1
  have hC := newslab_calls w1 nn (by omega)
  rw [← HN.out] at hC
  have HC := hid hC
  clear hC
  go_upto_region 4 with (go_at_call 10; go_loud (refine HC.out.mono ?_; rintro e w2 ⟨g, d, rfl, hS, hb2⟩; have S2 := hid hS; have B2x := hid hb2; clear hS hb2))
  have hC := rnew_calls w2 nn (by omega)
  rw [← HN.out] at hC
  clear HC
  have HC := hid hC
  clear hC
  go_upto_region 5 with (go_at_call 23; go_loud (refine HC.out.mono ?_; rintro e w3 ⟨g2, dn, dc, rfl, hR, hb3⟩; have R3 := hid hR; have B3x := hid hb3; clear hR hb3))
  have L1 := hid (HQ.out.below B1.out HQ.out.1)
  have P0 := hid (show Pl w1 w2.heap.size g d g2 dn dc [] (newL nn) (newL nn) w3 from ⟨⟨_, _, _, S2.out.below B3x.out, R3.out, fun k hk hf => by have := (S2.out.in_ge k hk).2; omega, by simp⟩, B2x.out.trans (B3x.out.mono B2x.out.size), B2x.out.size⟩)
  have Fw := hid (show Few 0 (newL nn) from ⟨by simp [newL], by simp [newL], by simp [newL]; omega⟩)
  obtain ⟨B2, hB2⟩ : ∃ B2, w2.heap.size = B2 := ⟨_, rfl⟩
  rw [hB2] at P0
  obtain ⟨wn, hwn⟩ : ∃ wn : World, wn = w1 := ⟨_, rfl⟩
  rw [← hwn] at P0 L1
  have Bn := hid (show Below w.heap.size w wn from by rw [hwn]; exact B1.out)
  have Bn3 := hid (show Below wn.heap.size wn w3 from by rw [hwn]; exact B2x.out.trans (B3x.out.mono B2x.out.size))
  clear hwn hB2 S2 B2x B3x R3 B1 HC
  go_upto_if 41 with fail
  go_cut [7, 9] from 41 to 41 (fun v7 v9 w' => BpStart wn v7 v9 w')
  case first =>
    cases a1
    · go_wp2_with fail
      go_meet
      have R : BpStart wn (.pointer (some ⟨g, 0, none⟩)) (.pointer (some ⟨g2, 0, none⟩)) w3 := ⟨machPl wn B2 g d g2 dn dc L1.out, newL nn, rfl, rfl, P0.out, Fw.out⟩
      first | exact R | ((repeat apply Exists.intro); refine ⟨R, ?_⟩; and_intros <;> rfl)
    · go_wp2_with fail
      go_meet
      have R : BpStart wn (.pointer none) (.pointer none) w3 := ⟨machNil wn, newL nn, rfl, rfl, ⟨Bn3.out, by simp⟩, Fw.out⟩
      first | exact R | ((repeat apply Exists.intro); refine ⟨R, ?_⟩; and_intros <;> rfl)
  case rest =>
    obtain ⟨M, s0, rfl, rfl, hI0, hF0⟩ := hcut
    have I0 := hid hI0
    have F0 := hid hF0
    clear P0 Fw Bn3 L1 hI0 hF0 HN
    go_wp2_with fail
    go_loopw [44] (fun iv wr => BpRel wn M l0.length iv wr) (fun iv _ => l0.length - (intOf iv).toNat)
    case atStart => exact ⟨0, s0, rfl, Nat.zero_le _, by omega, I0.out, F0.out⟩
    case round =>
      clear I0 F0
      obtain ⟨k, s, rfl, hk, hk40, hI, hF⟩ := hrel
      have T := hid hI
      have Fs := hid hF
      clear hI hF
      by_cases hkl : k < l0.length
      · have hkl' : (k : Int) < (l0.length : Int) := by omega
        have Ho := hid (Hok.out _ (List.getElem_mem hkl))
        obtain ⟨bo, off, rfl, hc⟩ := cs_row bopV_length Hcs.out hkl (by decide)
        have W5 := hid (Bn.out.trans ((M.bel T.out).mono Bn.out.size))
        have HR := hid (show wr.rangeAt bo (off + k * 11) (bopV l0[k]) from fun j v hv => cell_later W5.out (hc j v hv))
        clear hc
        generalize l0[k] = o at Ho HR
        have KQ := hid (blk_alloc wr (bopV o) 63)
        have bq := below_alloc wr (.cells (bopV o).toArray 63)
        have TQ := hid (M.moreL (L := [wr.heap.size]) T.out bq (by simp))
        have WQ := hid (W5.out.trans (bq.mono W5.out.size))
        go_upto_region 10 with (first | (refine wpList_load_row (o := ⟨some 48, _, _, _, _, _⟩) 63 (.tmp 47) rfl rfl bo (off + k * 11) (bopV o) rfl HR.out ⟨_, Tryd.underlying63, rfl⟩ size_bop ?_) | (refine wpListQ_alloc (o := ⟨some 12, _, _, _, _, _⟩) 63 rfl rfl zbop 11 info_bop ?_) | (refine wpListQ_store_new (o := ⟨none, _, 0, _, _, _⟩) rfl 63 (.tmp 12) (.tmp 48) rfl zbop (bopV o).toArray rfl rfl size_bop rfl (all_oneCell_toArray (bopV_one o)) ?_))
        generalize (wr.alloc (.cells (bopV o).toArray 63)) = wq at KQ bq TQ WQ ⊢
        obtain ⟨q, hq⟩ : ∃ q, wr.heap.size = q := ⟨_, rfl⟩
        rw [hq] at KQ TQ ⊢
        have HGE := hid (show wn.heap.size ≤ q from by rw [← hq]; exact (M.bel T.out).size)
        clear hq bq HR W5
        by_cases h40 : k < 40
        · have h40' : ¬ ((40 : Int) ≤ (k : Int)) := by omega
          obtain ⟨dd, i, x, ao, co, r⟩ := o
          obtain ⟨hd, hi, hx, ht, hr⟩ := Ho.out
          dsimp only at hd hi hx ht hr
          have mt := ht.max'
          obtain ⟨kt, hkt⟩ : ∃ kt, min x.data.length 130 = kt := ⟨_, rfl⟩
          have Hkt := hid ((pmin130 x.data.length).trans (by rw [hkt]))
          have hkt2 : kt ≤ x.data.length ∧ kt ≤ co ∧ kt ≤ 130 := by have := ht.fit'; omega
          obtain ⟨o, ho⟩ : ∃ o : BopD, o = ⟨dd, i, ⟨x.kind, x.epoch, x.a, x.b, x.data.take kt⟩, ao, co, r⟩ := ⟨_, rfl⟩
          have Lt := hid (show o.x.data.length = kt from by rw [ho]; show (x.data.take kt).length = kt; rw [List.length_take]; omega)
          have Pt := hid (show BS w ao co o.x.data from by rw [ho]; exact ht.take kt)
          have Oi := hid (show -9223372036854775808 ≤ o.i ∧ o.i ≤ 9223372036854775807 from by rw [ho]; exact hi)
          have Ox := hid (show o.x.Ok from by rw [ho]; exact ⟨hx.kind, hx.epoch, hx.a, hx.b⟩)
          have Or := hid (show o.r.Ok from by rw [ho]; exact hr)
          have hdd : (dd : Int) ≤ 255 := by omega
          have c6 := KQ.out.get 6 rfl
          have f6 := KQ.out.free 6
          have KS := hid (KQ.out.set 6 (.slice ao kt co))
          have CSx := chg_setCell wq q 6 (.slice ao kt co)
          have hkt' := Hkt.out
          clear Ho ht hd hi hx hr hkt
          go_upto_region 12 with fail
          have hge := hid (show wn.heap.size ≤ q from HGE.out)
          have Q4s := hid (show Blk (wq.setCell ⟨q, 6, none⟩ (.slice ao kt co)) q [.int .u8 (dd : Int), .int .i64 o.i, .int .u8 (o.x.kind : Int), .int .u32 (o.x.epoch : Int), .int .u32 (o.x.a : Int), .int .u32 (o.x.b : Int), .slice ao kt co, .int .u32 (o.r.turn : Int), .int .u32 (o.r.epoch : Int), .int .u32 (o.r.gen : Int), .int .u8 (o.r.area : Int)] 63 from by rw [ho]; exact KS.out)
          have TS := hid (M.other TQ.out CSx (by simp) (by simpa using hge.out))
          have WS := hid (WQ.out.trans (CSx.below WQ.out.size (by intro y hy; simp at hy; subst hy; exact Nat.le_trans Bn.out.size hge.out)))
          generalize (wq.setCell ⟨q, 6, none⟩ (.slice ao kt co)) = ws at Q4s TS WS ⊢
          clear ho c6 f6 KS CSx hkt' KQ TQ WQ Hkt mt
          have c6 := (Q4s.out.below (below_alloc ws (.cells #[] 5))).get 6 rfl
          go_upto_region 13 with (at_builtin; go_must (refine wpList_append_lit0 (.tmp 62) (.tmp 65) _ rfl rfl 5 info_u8 under_bytes (show _ = Value.slice (some ⟨_, 0, none⟩) 0 0 from rfl) (Pt.out.below WS.out) kt Lt.out rfl (by rw [Lt.out]; omega) ?_; intro v3 w3 ho hb; obtain ⟨am, cm, e3, hbs, hof⟩ := ho.bs; rw [Lt.out] at e3; subst e3; have Om := hid ho; have B3 := hid hb; clear hbs hof hb ho))
          have T4 := hid (M.moreL (L := (Value.slice am kt cm).ownBlock.toList) TS.out B3.out (fun y hy => World.ownsRow.lt Om.out y (by simpa using hy)))
          have Q4 := hid (Q4s.out.below B3.out)
          obtain ⟨X, hX⟩ : ∃ X, ([] ++ [q]) ++ (Value.slice am kt cm).ownBlock.toList = X := ⟨_, rfl⟩
          rw [hX] at T4
          have Xq := hid (show q ∈ X from by rw [← hX]; simp)
          have Xm := hid (show ∀ k, (Value.slice am kt cm).ownBlock = some k → k ∈ X from fun k hk => by rw [← hX]; simp [hk])
          generalize ws.heap.size = bm at Om B3
          have d0 := Q4.out.get 0 rfl
          clear hX c6 TS WS Q4s B3 hge HGE
          obtain ⟨w4, rfl⟩ : ∃ w4 : World, w4 = w3 := ⟨_, rfl⟩
          go_upto_block 2 with fail
          clear d0
          go_cut [14] from 69 to 199 (fun b w' => BpMid wn M k X w4 b w')
          case first =>
            have hcs : dd = 0 ∨ dd = 1 ∨ dd = 2 ∨ dd = 3 ∨ dd = 4 ∨ dd = 5 ∨ dd = 6 ∨ dd = 7 ∨ dd = 8 ∨ 9 ≤ dd := by omega
            rcases hcs with h | h | h | h | h | h | h | h | h | h
            · as_aux_lemma =>
              have e0 : ((dd : Int) == 0) = true := by rw [beq_iff_eq]; omega
              have e1 : ((dd : Int) == 1) = false := by rw [beq_eq_false_iff_ne]; omega
              have e2 : ((dd : Int) == 2) = false := by rw [beq_eq_false_iff_ne]; omega
              have e3 : ((dd : Int) == 3) = false := by rw [beq_eq_false_iff_ne]; omega
              have e4 : ((dd : Int) == 4) = false := by rw [beq_eq_false_iff_ne]; omega
              have e5 : ((dd : Int) == 5) = false := by rw [beq_eq_false_iff_ne]; omega
              have e6 : ((dd : Int) == 6) = false := by rw [beq_eq_false_iff_ne]; omega
              have e7 : ((dd : Int) == 7) = false := by rw [beq_eq_false_iff_ne]; omega
              have e8 : ((dd : Int) == 8) = false := by rw [beq_eq_false_iff_ne]; omega
              clear h
              go_upto_region 17 with fail
              refine wp_region_st 28 2 [.r 0 2, .r 0 2, .r 0 2, .r 0 2, .r 0 2, .r 0 2, .r 0 2, .r 0 2, .r 0 2, .r 0 2, .r 0 2, .r 0 2, .r 0 2, .r 0 2, .r 0 2, .r 0 2, .r 0 2, .w 0, .r 0 2, .r 0 2, .r 0 2, .r 0 2, .r 0 2, .w 1, .r 0 2] (fun ph w' => M.I X (match ph with | 0 => s | _ => (M.fput s o.i o.x).1) (match ph with | 0 => s | 1 => s | _ => (M.fput s o.i o.x).1) w' ∧ XKeep X w4 w') (fun _ _ => True) (fun idx v w' => match idx with
                | 0 => v = M.p1
                | 1 | 19 => v = .pointer (some ⟨q, 1, none⟩)
                | 2 | 20 => v = .int .i64 o.i
                | 3 | 4 | 6 | 9 | 12 | 21 => v = .pointer (some ⟨q, 2, none⟩)
                | 5 => v = .int .u8 (o.x.kind : Int)
                | 7 => v = .pointer (some ⟨q, 3, none⟩)
                | 8 => v = .int .u32 (o.x.epoch : Int)
                | 10 => v = .pointer (some ⟨q, 4, none⟩)
                | 11 => v = .int .u32 (o.x.a : Int)
                | 13 => v = .pointer (some ⟨q, 5, none⟩)
                | 14 => v = .int .u32 (o.x.b : Int)
                | 15 => v = .slice am kt cm
                | 16 => v = .agg #[.int .u8 (o.x.kind : Int), .int .u32 (o.x.epoch : Int), .int .u32 (o.x.a : Int), .int .u32 (o.x.b : Int), .slice am kt cm]
                | 17 | 23 => v = .int .i64 ((M.fput s o.i o.x).2 : Int)
                | 18 => v = M.p2
                | 22 => v = .agg #[.int .u8 (o.x.kind : Int), .int .u32 (o.x.epoch : Int), .int .u32 (o.x.a : Int), .int .u32 (o.x.b : Int), .slice ao kt co]
                | 24 => v = .bool true
                | _ => True) (by kernel_rfl) (by kernel_rfl) (by kernel_rfl) (by kernel_rfl) ?_ ?_ ?_ ?_ ?_ ?_
              · intro j v wx wy hR hb
                match j, hR with
                | 0, hR | 1, hR | 19, hR | 2, hR | 20, hR | 3, hR | 4, hR | 6, hR | 9, hR | 12, hR | 21, hR | 5, hR | 7, hR | 8, hR | 10, hR | 11, hR | 13, hR | 14, hR | 15, hR | 16, hR | 17, hR | 23, hR | 18, hR | 22, hR | 24, hR => exact hR
                | _ + 25, _ => trivial
              · intro j v wx wy hR hb
                match j, hR with
                | 0, hR | 1, hR | 19, hR | 2, hR | 20, hR | 3, hR | 4, hR | 6, hR | 9, hR | 12, hR | 21, hR | 5, hR | 7, hR | 8, hR | 10, hR | 11, hR | 13, hR | 14, hR | 15, hR | 16, hR | 17, hR | 23, hR | 18, hR | 22, hR | 24, hR => exact hR
                | _ + 25, _ => trivial
              · intro ph wx wy hS hb
                exact ⟨M.below hS.1 hb, hS.2.trans (M.keepX hS.1 hb)⟩
              · exact ⟨M.below T4.out (below_drew _), M.keepX T4.out (below_drew _)⟩
              · refine ⟨?_, ?_, ?_, ?_, ?_, ?_, ?_, ?_, ?_, ?_, ?_, ?_, ?_, ?_, ?_, ?_, ?_, ?_, ?_, ?_, ?_, ?_, ?_, ?_, ?_, trivial⟩
                all_goals intro ρ wx hc hg hf
                · intro ph _ _ hS
                  intro h0; exact opOk_move _ rfl ⟨Below.refl _ _, h0⟩
                · intro ph _ _ hS
                  intro (h0 : ρ (.tmp 12) = .pointer (some ⟨q, 0, none⟩))
                  exact opOk_run (v := .pointer (some ⟨q, 1, none⟩)) (w' := wx) (by go_simp) ⟨Below.refl _ _, rfl⟩
                · intro ph _ _ hS
                  intro (h0 : ρ (.tmp 73) = .pointer (some ⟨q, 1, none⟩))
                  have c := (Blk.x Q4.out hS.2 Xq.out).get 1 rfl
                  exact opOk_load _ _ rfl _ _ h0 (run_int_at _ _ _ _ c) ⟨Below.refl _ _, rfl⟩
                · intro ph _ _ hS
                  intro (h0 : ρ (.tmp 12) = .pointer (some ⟨q, 0, none⟩))
                  exact opOk_run (v := .pointer (some ⟨q, 2, none⟩)) (w' := wx) (by go_simp) ⟨Below.refl _ _, rfl⟩
                · intro ph _ _ hS
                  intro (h0 : ρ (.tmp 75) = .pointer (some ⟨q, 2, none⟩))
                  exact opOk_run (v := .pointer (some ⟨q, 2, none⟩)) (w' := wx) (by go_simp) ⟨Below.refl _ _, rfl⟩
                · intro ph _ _ hS
                  intro (h0 : ρ (.tmp 76) = .pointer (some ⟨q, 2, none⟩))
                  have c := (Blk.x Q4.out hS.2 Xq.out).get 2 rfl
                  exact opOk_load _ _ rfl _ _ h0 (run_u8_at _ _ _ _ c) ⟨Below.refl _ _, rfl⟩
                · intro ph _ _ hS
                  intro (h0 : ρ (.tmp 12) = .pointer (some ⟨q, 0, none⟩))
                  exact opOk_run (v := .pointer (some ⟨q, 2, none⟩)) (w' := wx) (by go_simp) ⟨Below.refl _ _, rfl⟩
                · intro ph _ _ hS
                  intro (h0 : ρ (.tmp 78) = .pointer (some ⟨q, 2, none⟩))
                  exact opOk_run (v := .pointer (some ⟨q, 3, none⟩)) (w' := wx) (by go_simp) ⟨Below.refl _ _, rfl⟩
                · intro ph _ _ hS
                  intro (h0 : ρ (.tmp 79) = .pointer (some ⟨q, 3, none⟩))
                  have c := (Blk.x Q4.out hS.2 Xq.out).get 3 rfl
                  exact opOk_load _ _ rfl _ _ h0 (run_u32_at _ _ _ _ c) ⟨Below.refl _ _, rfl⟩
                · intro ph _ _ hS
                  intro (h0 : ρ (.tmp 12) = .pointer (some ⟨q, 0, none⟩))
                  exact opOk_run (v := .pointer (some ⟨q, 2, none⟩)) (w' := wx) (by go_simp) ⟨Below.refl _ _, rfl⟩
                · intro ph _ _ hS
                  intro (h0 : ρ (.tmp 81) = .pointer (some ⟨q, 2, none⟩))
                  exact opOk_run (v := .pointer (some ⟨q, 4, none⟩)) (w' := wx) (by go_simp) ⟨Below.refl _ _, rfl⟩
                · intro ph _ _ hS
                  intro (h0 : ρ (.tmp 82) = .pointer (some ⟨q, 4, none⟩))
                  have c := (Blk.x Q4.out hS.2 Xq.out).get 4 rfl
                  exact opOk_load _ _ rfl _ _ h0 (run_u32_at _ _ _ _ c) ⟨Below.refl _ _, rfl⟩
                · intro ph _ _ hS
                  intro (h0 : ρ (.tmp 12) = .pointer (some ⟨q, 0, none⟩))
                  exact opOk_run (v := .pointer (some ⟨q, 2, none⟩)) (w' := wx) (by go_simp) ⟨Below.refl _ _, rfl⟩
                · intro ph _ _ hS
                  intro (h0 : ρ (.tmp 84) = .pointer (some ⟨q, 2, none⟩))
                  exact opOk_run (v := .pointer (some ⟨q, 5, none⟩)) (w' := wx) (by go_simp) ⟨Below.refl _ _, rfl⟩
                · intro ph _ _ hS
                  intro (h0 : ρ (.tmp 85) = .pointer (some ⟨q, 5, none⟩))
                  have c := (Blk.x Q4.out hS.2 Xq.out).get 5 rfl
                  exact opOk_load _ _ rfl _ _ h0 (run_u32_at _ _ _ _ c) ⟨Below.refl _ _, rfl⟩
                · intro ph _ _ hS
                  intro h0; exact opOk_move _ rfl ⟨Below.refl _ _, h0⟩
                · intro ph _ _ hS
                  intro (h0 : ρ (.tmp 77) = .int .u8 (o.x.kind : Int)) (h1 : ρ (.tmp 80) = .int .u32 (o.x.epoch : Int)) (h2 : ρ (.tmp 83) = .int .u32 (o.x.a : Int)) (h3 : ρ (.tmp 86) = .int .u32 (o.x.b : Int)) (h4 : ρ (.tmp 87) = .slice am kt cm)
                  exact opOk_run (v := .agg #[.int .u8 (o.x.kind : Int), .int .u32 (o.x.epoch : Int), .int .u32 (o.x.a : Int), .int .u32 (o.x.b : Int), .slice am kt cm]) (w' := wx) (by go_simp) ⟨Below.refl _ _, rfl⟩
                · intro hS
                  intro (h0 : ρ (.tmp 72) = M.p1) (h1 : ρ (.tmp 74) = .int .i64 o.i) (h2 : ρ (.tmp 88) = .agg #[.int .u8 (o.x.kind : Int), .int .u32 (o.x.epoch : Int), .int .u32 (o.x.a : Int), .int .u32 (o.x.b : Int), .slice am kt cm])
                  obtain ⟨b1, b2, b3⟩ := ob_arg (wn := wn) (OB.x Om.out hS.2 Xm.out) Xm.out
                  refine opOk_call (f := 21) (args := #[M.p1, .int .i64 o.i, .agg #[.int .u8 (o.x.kind : Int), .int .u32 (o.x.epoch : Int), .int .u32 (o.x.a : Int), .int .u32 (o.x.b : Int), .slice am kt cm]]) (by go_simp) ?_
                  refine (M.put1 hS.1 o.i am kt cm o.x Oi.out Ox.out b1 b2 (Fs.out.mono (by omega))).mono ?_
                  rintro e w7 ⟨rfl, h7, k7⟩
                  exact ⟨_, rfl, trivial, ⟨h7, hS.2.trans k7⟩, rfl⟩
                · intro ph _ _ hS
                  intro h0; exact opOk_move _ rfl ⟨Below.refl _ _, h0⟩
                · intro ph _ _ hS
                  intro (h0 : ρ (.tmp 12) = .pointer (some ⟨q, 0, none⟩))
                  exact opOk_run (v := .pointer (some ⟨q, 1, none⟩)) (w' := wx) (by go_simp) ⟨Below.refl _ _, rfl⟩
                · intro ph _ _ hS
                  intro (h0 : ρ (.tmp 91) = .pointer (some ⟨q, 1, none⟩))
                  have c := (Blk.x Q4.out hS.2 Xq.out).get 1 rfl
                  exact opOk_load _ _ rfl _ _ h0 (run_int_at _ _ _ _ c) ⟨Below.refl _ _, rfl⟩
                · intro ph _ _ hS
                  intro (h0 : ρ (.tmp 12) = .pointer (some ⟨q, 0, none⟩))
                  exact opOk_run (v := .pointer (some ⟨q, 2, none⟩)) (w' := wx) (by go_simp) ⟨Below.refl _ _, rfl⟩
                · intro ph _ _ hS
                  intro (h0 : ρ (.tmp 93) = .pointer (some ⟨q, 2, none⟩))
                  exact opOk_load_row _ _ rfl q 2 [.int .u8 (o.x.kind : Int), .int .u32 (o.x.epoch : Int), .int .u32 (o.x.a : Int), .int .u32 (o.x.b : Int), .slice ao kt co] h0 (show wx.rangeAt q 2 [.int .u8 (o.x.kind : Int), .int .u32 (o.x.epoch : Int), .int .u32 (o.x.a : Int), .int .u32 (o.x.b : Int), .slice ao kt co] from Blk.part (Blk.x Q4.out hS.2 Xq.out) 2 5) ⟨_, Tryd.underlying34, rfl⟩ size_rblk ⟨Below.refl _ _, rfl⟩
                · intro hS
                  intro (h0 : ρ (.tmp 90) = M.p2) (h1 : ρ (.tmp 92) = .int .i64 o.i) (h2 : ρ (.tmp 94) = .agg #[.int .u8 (o.x.kind : Int), .int .u32 (o.x.epoch : Int), .int .u32 (o.x.a : Int), .int .u32 (o.x.b : Int), .slice ao kt co])
                  refine opOk_call (f := 24) (args := #[M.p2, .int .i64 o.i, .agg #[.int .u8 (o.x.kind : Int), .int .u32 (o.x.epoch : Int), .int .u32 (o.x.a : Int), .int .u32 (o.x.b : Int), .slice ao kt co]]) (by go_simp) ?_
                  refine (M.put2 hS.1 o.i ao kt co o.x Oi.out Ox.out (Pt.out.below (Bn.out.trans ((M.bel hS.1).mono Bn.out.size))) Lt.out (Fs.out.mono (by omega))).mono ?_
                  rintro e w7 ⟨rfl, h7, k7⟩
                  exact ⟨_, rfl, trivial, ⟨h7, hS.2.trans k7⟩, rfl⟩
                · intro ph _ _ hS
                  intro (h0 : ρ (.tmp 89) = .int .i64 ((M.fput s o.i o.x).2 : Int)) (h1 : ρ (.tmp 95) = .int .i64 ((M.fput s o.i o.x).2 : Int))
                  exact opOk_run (v := .bool true) (w' := wx) (by go_simp) ⟨Below.refl _ _, rfl⟩
              · intro wz hS
                rintro _ rfl _ rfl _ rfl _ rfl _ rfl _ rfl _ rfl _ rfl _ rfl _ rfl _ rfl _ rfl _ rfl _ rfl _ rfl _ rfl _ rfl _ rfl _ rfl _ rfl _ rfl _ rfl _ rfl _ rfl _ rfl
                simp only [PutLast, Act.put, List.setIfInBounds_toArray, List.set_cons_succ, List.set_cons_zero]
                refine opOk_assignV (.tmp 96) (.bool true) rfl rfl ?_
                have hS9 := hid (show M.I X ((M.fput s o.i o.x).1) ((M.fput s o.i o.x).1) wz ∧ XKeep X w4 wz from hS)
                clear hS
                go_wp2_with fail
                go_meet
                have R9 : BpMid wn M k X w4 (.bool true) wz := ⟨_, rfl, hS9.out.1, M.few_put o.i o.x Fs.out, hS9.out.2⟩
                first | exact R9 | ((repeat apply Exists.intro); refine ⟨R9, ?_⟩; and_intros <;> rfl)
            · as_aux_lemma =>
              have e0 : ((dd : Int) == 0) = false := by rw [beq_eq_false_iff_ne]; omega
              have e1 : ((dd : Int) == 1) = true := by rw [beq_iff_eq]; omega
              have e2 : ((dd : Int) == 2) = false := by rw [beq_eq_false_iff_ne]; omega
              have e3 : ((dd : Int) == 3) = false := by rw [beq_eq_false_iff_ne]; omega
              have e4 : ((dd : Int) == 4) = false := by rw [beq_eq_false_iff_ne]; omega
              have e5 : ((dd : Int) == 5) = false := by rw [beq_eq_false_iff_ne]; omega
              have e6 : ((dd : Int) == 6) = false := by rw [beq_eq_false_iff_ne]; omega
              have e7 : ((dd : Int) == 7) = false := by rw [beq_eq_false_iff_ne]; omega
              have e8 : ((dd : Int) == 8) = false := by rw [beq_eq_false_iff_ne]; omega
              clear h
              go_upto_region 17 with fail
              refine wp_region_st 28 2 [.r 0 2, .r 0 2, .r 0 2, .r 0 2, .r 0 2, .r 0 2, .r 0 2, .r 0 2, .r 0 2, .r 0 2, .r 0 2, .r 0 2, .r 0 2, .r 0 2, .r 0 2, .r 0 2, .r 0 2, .w 0, .r 0 2, .r 0 2, .r 0 2, .r 0 2, .r 0 2, .w 1, .r 0 2] (fun ph w' => M.I X (match ph with | 0 => s | _ => (M.fput s o.i o.x).1) (match ph with | 0 => s | 1 => s | _ => (M.fput s o.i o.x).1) w' ∧ XKeep X w4 w') (fun _ _ => True) (fun idx v w' => match idx with
                | 0 => v = M.p1
                | 1 | 19 => v = .pointer (some ⟨q, 1, none⟩)
                | 2 | 20 => v = .int .i64 o.i
                | 3 | 4 | 6 | 9 | 12 | 21 => v = .pointer (some ⟨q, 2, none⟩)
                | 5 => v = .int .u8 (o.x.kind : Int)
                | 7 => v = .pointer (some ⟨q, 3, none⟩)
                | 8 => v = .int .u32 (o.x.epoch : Int)
                | 10 => v = .pointer (some ⟨q, 4, none⟩)
                | 11 => v = .int .u32 (o.x.a : Int)
                | 13 => v = .pointer (some ⟨q, 5, none⟩)
                | 14 => v = .int .u32 (o.x.b : Int)
                | 15 => v = .slice am kt cm
                | 16 => v = .agg #[.int .u8 (o.x.kind : Int), .int .u32 (o.x.epoch : Int), .int .u32 (o.x.a : Int), .int .u32 (o.x.b : Int), .slice am kt cm]
                | 17 | 23 => v = .int .i64 ((M.fput s o.i o.x).2 : Int)
                | 18 => v = M.p2
                | 22 => v = .agg #[.int .u8 (o.x.kind : Int), .int .u32 (o.x.epoch : Int), .int .u32 (o.x.a : Int), .int .u32 (o.x.b : Int), .slice ao kt co]
                | 24 => v = .bool true
                | _ => True) (by kernel_rfl) (by kernel_rfl) (by kernel_rfl) (by kernel_rfl) ?_ ?_ ?_ ?_ ?_ ?_
              · intro j v wx wy hR hb
                match j, hR with
                | 0, hR | 1, hR | 19, hR | 2, hR | 20, hR | 3, hR | 4, hR | 6, hR | 9, hR | 12, hR | 21, hR | 5, hR | 7, hR | 8, hR | 10, hR | 11, hR | 13, hR | 14, hR | 15, hR | 16, hR | 17, hR | 23, hR | 18, hR | 22, hR | 24, hR => exact hR
                | _ + 25, _ => trivial
              · intro j v wx wy hR hb
                match j, hR with
                | 0, hR | 1, hR | 19, hR | 2, hR | 20, hR | 3, hR | 4, hR | 6, hR | 9, hR | 12, hR | 21, hR | 5, hR | 7, hR | 8, hR | 10, hR | 11, hR | 13, hR | 14, hR | 15, hR | 16, hR | 17, hR | 23, hR | 18, hR | 22, hR | 24, hR => exact hR
                | _ + 25, _ => trivial
              · intro ph wx wy hS hb
                exact ⟨M.below hS.1 hb, hS.2.trans (M.keepX hS.1 hb)⟩
              · exact ⟨M.below T4.out (below_drew _), M.keepX T4.out (below_drew _)⟩
              · refine ⟨?_, ?_, ?_, ?_, ?_, ?_, ?_, ?_, ?_, ?_, ?_, ?_, ?_, ?_, ?_, ?_, ?_, ?_, ?_, ?_, ?_, ?_, ?_, ?_, ?_, trivial⟩
                all_goals intro ρ wx hc hg hf
                · intro ph _ _ hS
                  intro h0; exact opOk_move _ rfl ⟨Below.refl _ _, h0⟩
                · intro ph _ _ hS
                  intro (h0 : ρ (.tmp 12) = .pointer (some ⟨q, 0, none⟩))
                  exact opOk_run (v := .pointer (some ⟨q, 1, none⟩)) (w' := wx) (by go_simp) ⟨Below.refl _ _, rfl⟩
                · intro ph _ _ hS
                  intro (h0 : ρ (.tmp 73) = .pointer (some ⟨q, 1, none⟩))
                  have c := (Blk.x Q4.out hS.2 Xq.out).get 1 rfl
                  exact opOk_load _ _ rfl _ _ h0 (run_int_at _ _ _ _ c) ⟨Below.refl _ _, rfl⟩
                · intro ph _ _ hS
                  intro (h0 : ρ (.tmp 12) = .pointer (some ⟨q, 0, none⟩))
                  exact opOk_run (v := .pointer (some ⟨q, 2, none⟩)) (w' := wx) (by go_simp) ⟨Below.refl _ _, rfl⟩
                · intro ph _ _ hS
                  intro (h0 : ρ (.tmp 75) = .pointer (some ⟨q, 2, none⟩))
                  exact opOk_run (v := .pointer (some ⟨q, 2, none⟩)) (w' := wx) (by go_simp) ⟨Below.refl _ _, rfl⟩
                · intro ph _ _ hS
                  intro (h0 : ρ (.tmp 76) = .pointer (some ⟨q, 2, none⟩))
                  have c := (Blk.x Q4.out hS.2 Xq.out).get 2 rfl
                  exact opOk_load _ _ rfl _ _ h0 (run_u8_at _ _ _ _ c) ⟨Below.refl _ _, rfl⟩
                · intro ph _ _ hS
                  intro (h0 : ρ (.tmp 12) = .pointer (some ⟨q, 0, none⟩))
                  exact opOk_run (v := .pointer (some ⟨q, 2, none⟩)) (w' := wx) (by go_simp) ⟨Below.refl _ _, rfl⟩
                · intro ph _ _ hS
                  intro (h0 : ρ (.tmp 78) = .pointer (some ⟨q, 2, none⟩))
                  exact opOk_run (v := .pointer (some ⟨q, 3, none⟩)) (w' := wx) (by go_simp) ⟨Below.refl _ _, rfl⟩
                · intro ph _ _ hS
                  intro (h0 : ρ (.tmp 79) = .pointer (some ⟨q, 3, none⟩))
                  have c := (Blk.x Q4.out hS.2 Xq.out).get 3 rfl
                  exact opOk_load _ _ rfl _ _ h0 (run_u32_at _ _ _ _ c) ⟨Below.refl _ _, rfl⟩
                · intro ph _ _ hS
                  intro (h0 : ρ (.tmp 12) = .pointer (some ⟨q, 0, none⟩))
                  exact opOk_run (v := .pointer (some ⟨q, 2, none⟩)) (w' := wx) (by go_simp) ⟨Below.refl _ _, rfl⟩
                · intro ph _ _ hS
                  intro (h0 : ρ (.tmp 81) = .pointer (some ⟨q, 2, none⟩))
                  exact opOk_run (v := .pointer (some ⟨q, 4, none⟩)) (w' := wx) (by go_simp) ⟨Below.refl _ _, rfl⟩
                · intro ph _ _ hS
                  intro (h0 : ρ (.tmp 82) = .pointer (some ⟨q, 4, none⟩))
                  have c := (Blk.x Q4.out hS.2 Xq.out).get 4 rfl
                  exact opOk_load _ _ rfl _ _ h0 (run_u32_at _ _ _ _ c) ⟨Below.refl _ _, rfl⟩
                · intro ph _ _ hS
                  intro (h0 : ρ (.tmp 12) = .pointer (some ⟨q, 0, none⟩))
                  exact opOk_run (v := .pointer (some ⟨q, 2, none⟩)) (w' := wx) (by go_simp) ⟨Below.refl _ _, rfl⟩
                · intro ph _ _ hS
                  intro (h0 : ρ (.tmp 84) = .pointer (some ⟨q, 2, none⟩))
                  exact opOk_run (v := .pointer (some ⟨q, 5, none⟩)) (w' := wx) (by go_simp) ⟨Below.refl _ _, rfl⟩
                · intro ph _ _ hS
                  intro (h0 : ρ (.tmp 85) = .pointer (some ⟨q, 5, none⟩))
                  have c := (Blk.x Q4.out hS.2 Xq.out).get 5 rfl
                  exact opOk_load _ _ rfl _ _ h0 (run_u32_at _ _ _ _ c) ⟨Below.refl _ _, rfl⟩
                · intro ph _ _ hS
                  intro h0; exact opOk_move _ rfl ⟨Below.refl _ _, h0⟩
                · intro ph _ _ hS
                  intro (h0 : ρ (.tmp 77) = .int .u8 (o.x.kind : Int)) (h1 : ρ (.tmp 80) = .int .u32 (o.x.epoch : Int)) (h2 : ρ (.tmp 83) = .int .u32 (o.x.a : Int)) (h3 : ρ (.tmp 86) = .int .u32 (o.x.b : Int)) (h4 : ρ (.tmp 87) = .slice am kt cm)
                  exact opOk_run (v := .agg #[.int .u8 (o.x.kind : Int), .int .u32 (o.x.epoch : Int), .int .u32 (o.x.a : Int), .int .u32 (o.x.b : Int), .slice am kt cm]) (w' := wx) (by go_simp) ⟨Below.refl _ _, rfl⟩
                · intro hS
                  intro (h0 : ρ (.tmp 72) = M.p1) (h1 : ρ (.tmp 74) = .int .i64 o.i) (h2 : ρ (.tmp 88) = .agg #[.int .u8 (o.x.kind : Int), .int .u32 (o.x.epoch : Int), .int .u32 (o.x.a : Int), .int .u32 (o.x.b : Int), .slice am kt cm])
                  obtain ⟨b1, b2, b3⟩ := ob_arg (wn := wn) (OB.x Om.out hS.2 Xm.out) Xm.out
                  refine opOk_call (f := 21) (args := #[M.p1, .int .i64 o.i, .agg #[.int .u8 (o.x.kind : Int), .int .u32 (o.x.epoch : Int), .int .u32 (o.x.a : Int), .int .u32 (o.x.b : Int), .slice am kt cm]]) (by go_simp) ?_
                  refine (M.put1 hS.1 o.i am kt cm o.x Oi.out Ox.out b1 b2 (Fs.out.mono (by omega))).mono ?_
                  rintro e w7 ⟨rfl, h7, k7⟩
                  exact ⟨_, rfl, trivial, ⟨h7, hS.2.trans k7⟩, rfl⟩
                · intro ph _ _ hS
                  intro h0; exact opOk_move _ rfl ⟨Below.refl _ _, h0⟩
                · intro ph _ _ hS
                  intro (h0 : ρ (.tmp 12) = .pointer (some ⟨q, 0, none⟩))
                  exact opOk_run (v := .pointer (some ⟨q, 1, none⟩)) (w' := wx) (by go_simp) ⟨Below.refl _ _, rfl⟩
                · intro ph _ _ hS
                  intro (h0 : ρ (.tmp 91) = .pointer (some ⟨q, 1, none⟩))
                  have c := (Blk.x Q4.out hS.2 Xq.out).get 1 rfl
                  exact opOk_load _ _ rfl _ _ h0 (run_int_at _ _ _ _ c) ⟨Below.refl _ _, rfl⟩
                · intro ph _ _ hS
                  intro (h0 : ρ (.tmp 12) = .pointer (some ⟨q, 0, none⟩))
                  exact opOk_run (v := .pointer (some ⟨q, 2, none⟩)) (w' := wx) (by go_simp) ⟨Below.refl _ _, rfl⟩
                · intro ph _ _ hS
                  intro (h0 : ρ (.tmp 93) = .pointer (some ⟨q, 2, none⟩))
                  exact opOk_load_row _ _ rfl q 2 [.int .u8 (o.x.kind : Int), .int .u32 (o.x.epoch : Int), .int .u32 (o.x.a : Int), .int .u32 (o.x.b : Int), .slice ao kt co] h0 (show wx.rangeAt q 2 [.int .u8 (o.x.kind : Int), .int .u32 (o.x.epoch : Int), .int .u32 (o.x.a : Int), .int .u32 (o.x.b : Int), .slice ao kt co] from Blk.part (Blk.x Q4.out hS.2 Xq.out) 2 5) ⟨_, Tryd.underlying34, rfl⟩ size_rblk ⟨Below.refl _ _, rfl⟩
                · intro hS
                  intro (h0 : ρ (.tmp 90) = M.p2) (h1 : ρ (.tmp 92) = .int .i64 o.i) (h2 : ρ (.tmp 94) = .agg #[.int .u8 (o.x.kind : Int), .int .u32 (o.x.epoch : Int), .int .u32 (o.x.a : Int), .int .u32 (o.x.b : Int), .slice ao kt co])
                  refine opOk_call (f := 24) (args := #[M.p2, .int .i64 o.i, .agg #[.int .u8 (o.x.kind : Int), .int .u32 (o.x.epoch : Int), .int .u32 (o.x.a : Int), .int .u32 (o.x.b : Int), .slice ao kt co]]) (by go_simp) ?_
                  refine (M.put2 hS.1 o.i ao kt co o.x Oi.out Ox.out (Pt.out.below (Bn.out.trans ((M.bel hS.1).mono Bn.out.size))) Lt.out (Fs.out.mono (by omega))).mono ?_
                  rintro e w7 ⟨rfl, h7, k7⟩
                  exact ⟨_, rfl, trivial, ⟨h7, hS.2.trans k7⟩, rfl⟩
                · intro ph _ _ hS
                  intro (h0 : ρ (.tmp 89) = .int .i64 ((M.fput s o.i o.x).2 : Int)) (h1 : ρ (.tmp 95) = .int .i64 ((M.fput s o.i o.x).2 : Int))
                  exact opOk_run (v := .bool true) (w' := wx) (by go_simp) ⟨Below.refl _ _, rfl⟩
              · intro wz hS
                rintro _ rfl _ rfl _ rfl _ rfl _ rfl _ rfl _ rfl _ rfl _ rfl _ rfl _ rfl _ rfl _ rfl _ rfl _ rfl _ rfl _ rfl _ rfl _ rfl _ rfl _ rfl _ rfl _ rfl _ rfl _ rfl
                simp only [PutLast, Act.put, List.setIfInBounds_toArray, List.set_cons_succ, List.set_cons_zero]
                refine opOk_assignV (.tmp 96) (.bool true) rfl rfl ?_
                have hS9 := hid (show M.I X ((M.fput s o.i o.x).1) ((M.fput s o.i o.x).1) wz ∧ XKeep X w4 wz from hS)
                clear hS
                go_wp2_with fail
                go_meet
                have R9 : BpMid wn M k X w4 (.bool true) wz := ⟨_, rfl, hS9.out.1, M.few_put o.i o.x Fs.out, hS9.out.2⟩
                first | exact R9 | ((repeat apply Exists.intro); refine ⟨R9, ?_⟩; and_intros <;> rfl)
            · as_aux_lemma =>
              have e0 : ((dd : Int) == 0) = false := by rw [beq_eq_false_iff_ne]; omega
              have e1 : ((dd : Int) == 1) = false := by rw [beq_eq_false_iff_ne]; omega
              have e2 : ((dd : Int) == 2) = true := by rw [beq_iff_eq]; omega
              have e3 : ((dd : Int) == 3) = false := by rw [beq_eq_false_iff_ne]; omega
              have e4 : ((dd : Int) == 4) = false := by rw [beq_eq_false_iff_ne]; omega
              have e5 : ((dd : Int) == 5) = false := by rw [beq_eq_false_iff_ne]; omega
              have e6 : ((dd : Int) == 6) = false := by rw [beq_eq_false_iff_ne]; omega
              have e7 : ((dd : Int) == 7) = false := by rw [beq_eq_false_iff_ne]; omega
              have e8 : ((dd : Int) == 8) = false := by rw [beq_eq_false_iff_ne]; omega
              clear h
              have q1 := Q4.out.get 1 rfl
              obtain ⟨⟨y, ey⟩, hY⟩ : ∃ Y, M.fget s o.i = Y := ⟨_, rfl⟩
              have hg1 := M.get1 T4.out o.i Oi.out
              rw [hY] at hg1
              have HG1 := hid hg1
              have HY := hid hY
              clear hg1 hY
              go_upto_region 20 with (first | (go_at_call 12; go_loud (refine HG1.out.mono ?_; rintro e w5 ⟨a5, n5, c5, rfl, hn5, ho5, hb5⟩; dsimp only at hn5 ho5; dsimp only; have N5 := hid hn5; have O5 := hid ho5; have B5 := hid hb5; clear hn5 ho5 hb5)) | (refine wpListQ_alloc (o := ⟨some 15, _, _, _, _, _⟩) 31 rfl rfl zblk 5 info_blk ?_) | (refine wpListQ_store_new (o := ⟨none, _, 0, _, _, _⟩) rfl 31 (.tmp 15) (.tmp 104) rfl zblk #[.int .u8 (y.kind : Int), .int .u32 (y.epoch : Int), .int .u32 (y.a : Int), .int .u32 (y.b : Int), .slice a5 n5 c5] rfl rfl size_blk rfl (all_oneCell_toArray (by intro u hu; simp only [List.mem_cons, List.not_mem_nil, or_false] at hu; rcases hu with rfl | rfl | rfl | rfl | rfl <;> rfl)) ?_))
              clear q1 HG1
              have b6 := below_alloc w5 (.cells #[.int .u8 (y.kind : Int), .int .u32 (y.epoch : Int), .int .u32 (y.a : Int), .int .u32 (y.b : Int), .slice a5 n5 c5] 31)
              have K6 := hid (show Blk (w5.alloc (.cells #[.int .u8 (y.kind : Int), .int .u32 (y.epoch : Int), .int .u32 (y.a : Int), .int .u32 (y.b : Int), .slice a5 n5 c5] 31)) w5.heap.size [.int .u8 (y.kind : Int), .int .u32 (y.epoch : Int), .int .u32 (y.a : Int), .int .u32 (y.b : Int), .slice a5 n5 c5] 31 from blk_alloc w5 [.int .u8 (y.kind : Int), .int .u32 (y.epoch : Int), .int .u32 (y.a : Int), .int .u32 (y.b : Int), .slice a5 n5 c5] 31)
              have O6 := hid (O5.out.below b6)
              have B6 := hid (B5.out.trans (b6.mono B5.out.size))
              generalize (w5.alloc (.cells #[.int .u8 (y.kind : Int), .int .u32 (y.epoch : Int), .int .u32 (y.a : Int), .int .u32 (y.b : Int), .slice a5 n5 c5] 31)) = w6 at K6 O6 B6 b6 ⊢
              obtain ⟨z6, hz6⟩ : ∃ z6, w5.heap.size = z6 := ⟨_, rfl⟩
              rw [hz6] at K6 ⊢
              clear b6 hz6 O5 B5
              have T6 := hid (M.below T4.out B6.out)
              have hg2 := M.get2 T6.out o.i Oi.out
              rw [HY.out] at hg2
              have HG2 := hid hg2
              have q1 := (Q4.out.below B6.out).get 1 rfl
              clear hg2
              go_upto_region 21 with (first | (go_at_call 25; go_loud (refine HG2.out.mono ?_; rintro e w7 ⟨a7, n7, c7, rfl, hn7, ho7, hb7⟩; dsimp only at hn7 ho7; dsimp only; have N7 := hid hn7; have O7 := hid ho7; have B7 := hid hb7; clear hn7 ho7 hb7)) | (refine wpListQ_alloc (o := ⟨some 17, _, _, _, _, _⟩) 34 rfl rfl zblk 5 info_rblk ?_) | (refine wpListQ_store_new (o := ⟨none, _, 0, _, _, _⟩) rfl 34 (.tmp 17) (.tmp 111) rfl zblk #[.int .u8 (y.kind : Int), .int .u32 (y.epoch : Int), .int .u32 (y.a : Int), .int .u32 (y.b : Int), .slice a7 n7 c7] rfl rfl size_rblk rfl (all_oneCell_toArray (by intro u hu; simp only [List.mem_cons, List.not_mem_nil, or_false] at hu; rcases hu with rfl | rfl | rfl | rfl | rfl <;> rfl)) ?_))
              clear q1 HG2
              have b8 := below_alloc w7 (.cells #[.int .u8 (y.kind : Int), .int .u32 (y.epoch : Int), .int .u32 (y.a : Int), .int .u32 (y.b : Int), .slice a7 n7 c7] 34)
              have K8 := hid (show Blk (w7.alloc (.cells #[.int .u8 (y.kind : Int), .int .u32 (y.epoch : Int), .int .u32 (y.a : Int), .int .u32 (y.b : Int), .slice a7 n7 c7] 34)) w7.heap.size [.int .u8 (y.kind : Int), .int .u32 (y.epoch : Int), .int .u32 (y.a : Int), .int .u32 (y.b : Int), .slice a7 n7 c7] 34 from blk_alloc w7 [.int .u8 (y.kind : Int), .int .u32 (y.epoch : Int), .int .u32 (y.a : Int), .int .u32 (y.b : Int), .slice a7 n7 c7] 34)
              have O8 := hid (O7.out.below b8)
              have K6' := hid (Blk.below (Blk.below K6.out B7.out) b8)
              have O6' := hid ((O6.out.below B7.out).below b8)
              have B8 := hid ((B6.out.trans (B7.out.mono B6.out.size)).trans (b8.mono (Nat.le_trans B6.out.size B7.out.size)))
              generalize (w7.alloc (.cells #[.int .u8 (y.kind : Int), .int .u32 (y.epoch : Int), .int .u32 (y.a : Int), .int .u32 (y.b : Int), .slice a7 n7 c7] 34)) = w8 at K8 O8 K6' O6' B8 b8 ⊢
              obtain ⟨z8, hz8⟩ : ∃ z8, w7.heap.size = z8 := ⟨_, rfl⟩
              rw [hz8] at K8 ⊢
              clear b8 hz8 O7 B7 K6 O6 B6 T6
              have HS := hid (rsame_calls w8 y a5 a7 n5 n7 c5 c7 O6'.out.bsN N5.out O8.out.bsN N7.out)
              go_wp2_with (first | (refine wpList_load_blk (o := ⟨some 113, _, _, _, _, _⟩) 31 (.tmp 15) rfl rfl z6 [.int .u8 (y.kind : Int), .int .u32 (y.epoch : Int), .int .u32 (y.a : Int), .int .u32 (y.b : Int), .slice a5 n5 c5] 31 rfl K6'.out ⟨_, Tryd.underlying31, rfl⟩ size_blk ?_) | (refine wpList_load_blk (o := ⟨some 114, _, _, _, _, _⟩) 34 (.tmp 17) rfl rfl z8 [.int .u8 (y.kind : Int), .int .u32 (y.epoch : Int), .int .u32 (y.a : Int), .int .u32 (y.b : Int), .slice a7 n7 c7] 34 rfl K8.out ⟨_, Tryd.underlying34, rfl⟩ size_rblk ?_) | (go_at_call 14; go_loud (refine HS.out.mono ?_; rintro e w9 ⟨rfl, hb9⟩; have B9 := hid (B8.out.trans (hb9.mono B8.out.size)); clear hb9)))
              go_meet
              have R9 : BpMid wn M k X w4 (.bool true) w9 := ⟨s, rfl, M.below T4.out B9.out, Fs.out.mono (by omega), M.keepX T4.out B9.out⟩
              first | exact R9 | ((repeat apply Exists.intro); refine ⟨R9, ?_⟩; and_intros <;> rfl)
            · as_aux_lemma =>
              have e0 : ((dd : Int) == 0) = false := by rw [beq_eq_false_iff_ne]; omega
              have e1 : ((dd : Int) == 1) = false := by rw [beq_eq_false_iff_ne]; omega
              have e2 : ((dd : Int) == 2) = false := by rw [beq_eq_false_iff_ne]; omega
              have e3 : ((dd : Int) == 3) = true := by rw [beq_iff_eq]; omega
              have e4 : ((dd : Int) == 4) = false := by rw [beq_eq_false_iff_ne]; omega
              have e5 : ((dd : Int) == 5) = false := by rw [beq_eq_false_iff_ne]; omega
              have e6 : ((dd : Int) == 6) = false := by rw [beq_eq_false_iff_ne]; omega
              have e7 : ((dd : Int) == 7) = false := by rw [beq_eq_false_iff_ne]; omega
              have e8 : ((dd : Int) == 8) = false := by rw [beq_eq_false_iff_ne]; omega
              clear h
              go_upto_region 23 with fail
              refine wp_region_st 12 2 [.r 0 2, .r 0 2, .r 0 2, .w 0, .r 0 2, .r 0 2, .r 0 2, .w 1, .r 0 2] (fun ph w' => M.I X (match ph with | 0 => s | _ => (M.fstore s o.r).1) (match ph with | 0 => s | 1 => s | _ => (M.fstore s o.r).1) w' ∧ XKeep X w4 w') (fun _ _ => True) (fun idx v w' => match idx with
                | 0 => v = M.p1
                | 1 | 5 => v = .pointer (some ⟨q, 7, none⟩)
                | 2 | 6 => v = .agg #[.int .u32 (o.r.turn : Int), .int .u32 (o.r.epoch : Int), .int .u32 (o.r.gen : Int), .int .u8 (o.r.area : Int)]
                | 3 | 7 => v = .int .i64 ((M.fstore s o.r).2 : Int)
                | 4 => v = M.p2
                | 8 => v = .bool true
                | _ => True) (by kernel_rfl) (by kernel_rfl) (by kernel_rfl) (by kernel_rfl) ?_ ?_ ?_ ?_ ?_ ?_
              · intro j v wx wy hR hb
                match j, hR with
                | 0, hR | 1, hR | 5, hR | 2, hR | 6, hR | 3, hR | 7, hR | 4, hR | 8, hR => exact hR
                | _ + 9, _ => trivial
              · intro j v wx wy hR hb
                match j, hR with
                | 0, hR | 1, hR | 5, hR | 2, hR | 6, hR | 3, hR | 7, hR | 4, hR | 8, hR => exact hR
                | _ + 9, _ => trivial
              · intro ph wx wy hS hb
                exact ⟨M.below hS.1 hb, hS.2.trans (M.keepX hS.1 hb)⟩
              · exact ⟨M.below T4.out (below_drew _), M.keepX T4.out (below_drew _)⟩
              · refine ⟨?_, ?_, ?_, ?_, ?_, ?_, ?_, ?_, ?_, trivial⟩
                all_goals intro ρ wx hc hg hf
                · intro ph _ _ hS
                  intro h0; exact opOk_move _ rfl ⟨Below.refl _ _, h0⟩
                · intro ph _ _ hS
                  intro (h0 : ρ (.tmp 12) = .pointer (some ⟨q, 0, none⟩))
                  exact opOk_run (v := .pointer (some ⟨q, 7, none⟩)) (w' := wx) (by go_simp) ⟨Below.refl _ _, rfl⟩
                · intro ph _ _ hS
                  intro (h0 : ρ (.tmp 124) = .pointer (some ⟨q, 7, none⟩))
                  exact opOk_load_row _ _ rfl q 7 [.int .u32 (o.r.turn : Int), .int .u32 (o.r.epoch : Int), .int .u32 (o.r.gen : Int), .int .u8 (o.r.area : Int)] h0 (show wx.rangeAt q 7 [.int .u32 (o.r.turn : Int), .int .u32 (o.r.epoch : Int), .int .u32 (o.r.gen : Int), .int .u8 (o.r.area : Int)] from Blk.part (Blk.x Q4.out hS.2 Xq.out) 7 4) ⟨_, Tryd.underlying61, rfl⟩ size_rroot ⟨Below.refl _ _, rfl⟩
                · intro hS
                  intro (h0 : ρ (.tmp 123) = M.p1) (h1 : ρ (.tmp 125) = .agg #[.int .u32 (o.r.turn : Int), .int .u32 (o.r.epoch : Int), .int .u32 (o.r.gen : Int), .int .u8 (o.r.area : Int)])
                  refine opOk_call (f := 26) (args := #[M.p1, .agg #[.int .u32 (o.r.turn : Int), .int .u32 (o.r.epoch : Int), .int .u32 (o.r.gen : Int), .int .u8 (o.r.area : Int)]]) (by go_simp) ?_
                  refine (M.store1 hS.1 o.r Or.out (Fs.out.mono (by omega))).mono ?_
                  rintro e w7 ⟨rfl, h7, k7⟩
                  exact ⟨_, rfl, trivial, ⟨h7, hS.2.trans k7⟩, rfl⟩
                · intro ph _ _ hS
                  intro h0; exact opOk_move _ rfl ⟨Below.refl _ _, h0⟩
                · intro ph _ _ hS
                  intro (h0 : ρ (.tmp 12) = .pointer (some ⟨q, 0, none⟩))
                  exact opOk_run (v := .pointer (some ⟨q, 7, none⟩)) (w' := wx) (by go_simp) ⟨Below.refl _ _, rfl⟩
                · intro ph _ _ hS
                  intro (h0 : ρ (.tmp 128) = .pointer (some ⟨q, 7, none⟩))
                  exact opOk_load_row _ _ rfl q 7 [.int .u32 (o.r.turn : Int), .int .u32 (o.r.epoch : Int), .int .u32 (o.r.gen : Int), .int .u8 (o.r.area : Int)] h0 (show wx.rangeAt q 7 [.int .u32 (o.r.turn : Int), .int .u32 (o.r.epoch : Int), .int .u32 (o.r.gen : Int), .int .u8 (o.r.area : Int)] from Blk.part (Blk.x Q4.out hS.2 Xq.out) 7 4) ⟨_, Tryd.underlying61, rfl⟩ size_rroot ⟨Below.refl _ _, rfl⟩
                · intro hS
                  intro (h0 : ρ (.tmp 127) = M.p2) (h1 : ρ (.tmp 129) = .agg #[.int .u32 (o.r.turn : Int), .int .u32 (o.r.epoch : Int), .int .u32 (o.r.gen : Int), .int .u8 (o.r.area : Int)])
                  refine opOk_call (f := 27) (args := #[M.p2, .agg #[.int .u32 (o.r.turn : Int), .int .u32 (o.r.epoch : Int), .int .u32 (o.r.gen : Int), .int .u8 (o.r.area : Int)]]) (by go_simp) ?_
                  refine (M.store2 hS.1 o.r Or.out (Fs.out.mono (by omega))).mono ?_
                  rintro e w7 ⟨rfl, h7, k7⟩
                  exact ⟨_, rfl, trivial, ⟨h7, hS.2.trans k7⟩, rfl⟩
                · intro ph _ _ hS
                  intro (h0 : ρ (.tmp 126) = .int .i64 ((M.fstore s o.r).2 : Int)) (h1 : ρ (.tmp 130) = .int .i64 ((M.fstore s o.r).2 : Int))
                  exact opOk_run (v := .bool true) (w' := wx) (by go_simp) ⟨Below.refl _ _, rfl⟩
              · intro wz hS
                rintro _ rfl _ rfl _ rfl _ rfl _ rfl _ rfl _ rfl _ rfl _ rfl
                simp only [PutLast, Act.put, List.setIfInBounds_toArray, List.set_cons_succ, List.set_cons_zero]
                refine opOk_assignV (.tmp 131) (.bool true) rfl rfl ?_
                have hS9 := hid (show M.I X ((M.fstore s o.r).1) ((M.fstore s o.r).1) wz ∧ XKeep X w4 wz from hS)
                clear hS
                go_wp2_with fail
                go_meet
                have R9 : BpMid wn M k X w4 (.bool true) wz := ⟨_, rfl, hS9.out.1, M.few_store o.r Fs.out, hS9.out.2⟩
                first | exact R9 | ((repeat apply Exists.intro); refine ⟨R9, ?_⟩; and_intros <;> rfl)
            · as_aux_lemma =>
              have e0 : ((dd : Int) == 0) = false := by rw [beq_eq_false_iff_ne]; omega
              have e1 : ((dd : Int) == 1) = false := by rw [beq_eq_false_iff_ne]; omega
              have e2 : ((dd : Int) == 2) = false := by rw [beq_eq_false_iff_ne]; omega
              have e3 : ((dd : Int) == 3) = false := by rw [beq_eq_false_iff_ne]; omega
              have e4 : ((dd : Int) == 4) = true := by rw [beq_iff_eq]; omega
              have e5 : ((dd : Int) == 5) = false := by rw [beq_eq_false_iff_ne]; omega
              have e6 : ((dd : Int) == 6) = false := by rw [beq_eq_false_iff_ne]; omega
              have e7 : ((dd : Int) == 7) = false := by rw [beq_eq_false_iff_ne]; omega
              have e8 : ((dd : Int) == 8) = false := by rw [beq_eq_false_iff_ne]; omega
              clear h
              obtain ⟨⟨y, ey⟩, hY⟩ : ∃ Y, M.fload s = Y := ⟨_, rfl⟩
              have hg1 := M.load1 T4.out
              rw [hY] at hg1
              have HG1 := hid hg1
              have HY := hid hY
              clear hg1 hY
              go_upto_region 26 with (first | (go_at_call 28; go_loud (refine HG1.out.mono ?_; rintro e w5 ⟨rfl, hb5⟩; dsimp only; have B5 := hid hb5; clear hb5)) | (refine wpListQ_alloc (o := ⟨some 19, _, _, _, _, _⟩) 67 rfl rfl zroot 4 info_root ?_) | (refine wpListQ_store_new (o := ⟨none, _, 0, _, _, _⟩) rfl 67 (.tmp 19) (.tmp 137) rfl zroot #[.int .u32 (y.turn : Int), .int .u32 (y.epoch : Int), .int .u32 (y.gen : Int), .int .u8 (y.area : Int)] rfl rfl size_root rfl (all_oneCell_toArray (by intro u hu; simp only [List.mem_cons, List.not_mem_nil, or_false] at hu; rcases hu with rfl | rfl | rfl | rfl <;> rfl)) ?_))
              clear HG1
              have b6 := below_alloc w5 (.cells #[.int .u32 (y.turn : Int), .int .u32 (y.epoch : Int), .int .u32 (y.gen : Int), .int .u8 (y.area : Int)] 67)
              have K6 := hid (show Blk (w5.alloc (.cells #[.int .u32 (y.turn : Int), .int .u32 (y.epoch : Int), .int .u32 (y.gen : Int), .int .u8 (y.area : Int)] 67)) w5.heap.size (rootV y) 67 from blk_alloc w5 (rootV y) 67)
              have B6 := hid (B5.out.trans (b6.mono B5.out.size))
              generalize (w5.alloc (.cells #[.int .u32 (y.turn : Int), .int .u32 (y.epoch : Int), .int .u32 (y.gen : Int), .int .u8 (y.area : Int)] 67)) = w6 at K6 B6 b6 ⊢
              obtain ⟨z6, hz6⟩ : ∃ z6, w5.heap.size = z6 := ⟨_, rfl⟩
              rw [hz6] at K6 ⊢
              clear b6 hz6 B5
              have T6 := hid (M.below T4.out B6.out)
              have hg2 := M.load2 T6.out
              rw [HY.out] at hg2
              have HG2 := hid hg2
              clear hg2
              go_upto_region 27 with (first | (go_at_call 29; go_loud (refine HG2.out.mono ?_; rintro e w7 ⟨rfl, hb7⟩; dsimp only; have B7 := hid hb7; clear hb7)) | (refine wpListQ_alloc (o := ⟨some 21, _, _, _, _, _⟩) 61 rfl rfl zroot 4 info_rroot ?_) | (refine wpListQ_store_new (o := ⟨none, _, 0, _, _, _⟩) rfl 61 (.tmp 21) (.tmp 142) rfl zroot #[.int .u32 (y.turn : Int), .int .u32 (y.epoch : Int), .int .u32 (y.gen : Int), .int .u8 (y.area : Int)] rfl rfl size_rroot rfl (all_oneCell_toArray (by intro u hu; simp only [List.mem_cons, List.not_mem_nil, or_false] at hu; rcases hu with rfl | rfl | rfl | rfl <;> rfl)) ?_))
              clear HG2
              have b8 := below_alloc w7 (.cells #[.int .u32 (y.turn : Int), .int .u32 (y.epoch : Int), .int .u32 (y.gen : Int), .int .u8 (y.area : Int)] 61)
              have K8 := hid (show Blk (w7.alloc (.cells #[.int .u32 (y.turn : Int), .int .u32 (y.epoch : Int), .int .u32 (y.gen : Int), .int .u8 (y.area : Int)] 61)) w7.heap.size (rootV y) 61 from blk_alloc w7 (rootV y) 61)
              have K6' := hid (Blk.below (Blk.below K6.out B7.out) b8)
              have B8 := hid ((B6.out.trans (B7.out.mono B6.out.size)).trans (b8.mono (Nat.le_trans B6.out.size B7.out.size)))
              generalize (w7.alloc (.cells #[.int .u32 (y.turn : Int), .int .u32 (y.epoch : Int), .int .u32 (y.gen : Int), .int .u8 (y.area : Int)] 61)) = w8 at K8 K6' B8 b8 ⊢
              obtain ⟨z8, hz8⟩ : ∃ z8, w7.heap.size = z8 := ⟨_, rfl⟩
              rw [hz8] at K8 ⊢
              clear b8 hz8 B7 K6 B6 T6
              have HZ0 := hid (rootEq_self y)
              go_wp2_with (first | (refine wpList_load_blk (o := ⟨some 144, _, _, _, _, _⟩) 67 (.tmp 19) rfl rfl z6 (rootV y) 67 rfl K6'.out ⟨_, Tryd.underlying67, rfl⟩ size_root ?_) | (refine wpList_load_blk (o := ⟨some 145, _, _, _, _, _⟩) 61 (.tmp 21) rfl rfl z8 (rootV y) 61 rfl K8.out ⟨_, Tryd.underlying61, rfl⟩ size_rroot ?_) | (refine wpList_eqlB (o := ⟨some 146, _, _, _, _, _⟩) 61 61 (.tmp 144) (.tmp 145) rfl rfl (.agg (rootV y).toArray) (.agg (rootV y).toArray) rfl rfl true (eqg_rroot y y _ _ _) ((eq_rroot y y _).trans (by rw [HZ0.out])) ?_))
              go_meet
              have R9 : BpMid wn M k X w4 (.bool true) w8 := ⟨s, rfl, M.below T4.out B8.out, Fs.out.mono (by omega), M.keepX T4.out B8.out⟩
              first | exact R9 | ((repeat apply Exists.intro); refine ⟨R9, ?_⟩; and_intros <;> rfl)
            · as_aux_lemma =>
              have e0 : ((dd : Int) == 0) = false := by rw [beq_eq_false_iff_ne]; omega
              have e1 : ((dd : Int) == 1) = false := by rw [beq_eq_false_iff_ne]; omega
              have e2 : ((dd : Int) == 2) = false := by rw [beq_eq_false_iff_ne]; omega
              have e3 : ((dd : Int) == 3) = false := by rw [beq_eq_false_iff_ne]; omega
              have e4 : ((dd : Int) == 4) = false := by rw [beq_eq_false_iff_ne]; omega
              have e5 : ((dd : Int) == 5) = true := by rw [beq_iff_eq]; omega
              have e6 : ((dd : Int) == 6) = false := by rw [beq_eq_false_iff_ne]; omega
              have e7 : ((dd : Int) == 7) = false := by rw [beq_eq_false_iff_ne]; omega
              have e8 : ((dd : Int) == 8) = false := by rw [beq_eq_false_iff_ne]; omega
              clear h
              go_wp2_with fail
              refine (M.flush1 T4.out (Fs.out.mono (by omega))).mono ?_
              rintro e w5 ⟨rfl, h5, k5⟩
              have A5 := hid (And.intro h5 k5)
              clear h5 k5
              go_wp2_with fail
              refine (M.flush2 A5.out.1 (Fs.out.mono (by omega))).mono ?_
              rintro e w6 ⟨rfl, h6, k6⟩
              have A6 := hid (And.intro h6 k6)
              clear h6 k6
              have eb : ((((M.fflush s).2 : Nat) : Int) == (((M.fflush s).2 : Nat) : Int)) = true := by simp
              go_wp2_with fail
              go_meet
              have R9 : BpMid wn M k X w4 (.bool true) w6 := ⟨_, rfl, A6.out.1, M.few_flush Fs.out, A5.out.2.trans A6.out.2⟩
              first | exact R9 | ((repeat apply Exists.intro); refine ⟨R9, ?_⟩; and_intros <;> rfl)
            · as_aux_lemma =>
              have e0 : ((dd : Int) == 0) = false := by rw [beq_eq_false_iff_ne]; omega
              have e1 : ((dd : Int) == 1) = false := by rw [beq_eq_false_iff_ne]; omega
              have e2 : ((dd : Int) == 2) = false := by rw [beq_eq_false_iff_ne]; omega
              have e3 : ((dd : Int) == 3) = false := by rw [beq_eq_false_iff_ne]; omega
              have e4 : ((dd : Int) == 4) = false := by rw [beq_eq_false_iff_ne]; omega
              have e5 : ((dd : Int) == 5) = false := by rw [beq_eq_false_iff_ne]; omega
              have e6 : ((dd : Int) == 6) = true := by rw [beq_iff_eq]; omega
              have e7 : ((dd : Int) == 7) = false := by rw [beq_eq_false_iff_ne]; omega
              have e8 : ((dd : Int) == 8) = false := by rw [beq_eq_false_iff_ne]; omega
              clear h
              go_upto_region 31 with fail
              refine wp_region_st 16 2 [.r 0 2, .r 0 2, .r 0 2, .r 0 2, .w 0, .r 0 2, .r 0 2, .r 0 2, .r 0 2, .r 0 2, .r 0 2, .w 1, .r 0 2] (fun ph w' => M.I X (match ph with | 0 => s | _ => (M.fwrite s o.i o.x.data).1) (match ph with | 0 => s | 1 => s | _ => (M.fwrite s o.i o.x.data).1) w' ∧ XKeep X w4 w') (fun _ _ => True) (fun idx v w' => match idx with
                | 0 => v = M.p1
                | 1 | 6 => v = .pointer (some ⟨q, 1, none⟩)
                | 2 | 7 => v = .int .i64 o.i
                | 3 => v = .slice am kt cm
                | 4 | 11 => v = .int .i64 ((M.fwrite s o.i o.x.data).2 : Int)
                | 5 => v = M.p2
                | 8 => v = .pointer (some ⟨q, 2, none⟩)
                | 9 => v = .pointer (some ⟨q, 6, none⟩)
                | 10 => v = .slice ao kt co
                | 12 => v = .bool true
                | _ => True) (by kernel_rfl) (by kernel_rfl) (by kernel_rfl) (by kernel_rfl) ?_ ?_ ?_ ?_ ?_ ?_
              · intro j v wx wy hR hb
                match j, hR with
                | 0, hR | 1, hR | 6, hR | 2, hR | 7, hR | 3, hR | 4, hR | 11, hR | 5, hR | 8, hR | 9, hR | 10, hR | 12, hR => exact hR
                | _ + 13, _ => trivial
              · intro j v wx wy hR hb
                match j, hR with
                | 0, hR | 1, hR | 6, hR | 2, hR | 7, hR | 3, hR | 4, hR | 11, hR | 5, hR | 8, hR | 9, hR | 10, hR | 12, hR => exact hR
                | _ + 13, _ => trivial
              · intro ph wx wy hS hb
                exact ⟨M.below hS.1 hb, hS.2.trans (M.keepX hS.1 hb)⟩
              · exact ⟨M.below T4.out (below_drew _), M.keepX T4.out (below_drew _)⟩
              · refine ⟨?_, ?_, ?_, ?_, ?_, ?_, ?_, ?_, ?_, ?_, ?_, ?_, ?_, trivial⟩
                all_goals intro ρ wx hc hg hf
                · intro ph _ _ hS
                  intro h0; exact opOk_move _ rfl ⟨Below.refl _ _, h0⟩
                · intro ph _ _ hS
                  intro (h0 : ρ (.tmp 12) = .pointer (some ⟨q, 0, none⟩))
                  exact opOk_run (v := .pointer (some ⟨q, 1, none⟩)) (w' := wx) (by go_simp) ⟨Below.refl _ _, rfl⟩
                · intro ph _ _ hS
                  intro (h0 : ρ (.tmp 162) = .pointer (some ⟨q, 1, none⟩))
                  have c := (Blk.x Q4.out hS.2 Xq.out).get 1 rfl
                  exact opOk_load _ _ rfl _ _ h0 (run_int_at _ _ _ _ c) ⟨Below.refl _ _, rfl⟩
                · intro ph _ _ hS
                  intro h0; exact opOk_move _ rfl ⟨Below.refl _ _, h0⟩
                · intro hS
                  intro (h0 : ρ (.tmp 161) = M.p1) (h1 : ρ (.tmp 163) = .int .i64 o.i) (h2 : ρ (.tmp 164) = .slice am kt cm)
                  obtain ⟨b1, b2, b3⟩ := ob_arg (wn := wn) (OB.x Om.out hS.2 Xm.out) Xm.out
                  refine opOk_call (f := 11) (args := #[M.p1, .int .i64 o.i, .slice am kt cm]) (by go_simp) ?_
                  refine (M.write1 hS.1 o.i am cm kt o.x.data Oi.out b1 b2 (Fs.out.mono (by omega)) b3).mono ?_
                  rintro e w7 ⟨rfl, h7, k7⟩
                  exact ⟨_, rfl, trivial, ⟨h7, hS.2.trans k7⟩, rfl⟩
                · intro ph _ _ hS
                  intro h0; exact opOk_move _ rfl ⟨Below.refl _ _, h0⟩
                · intro ph _ _ hS
                  intro (h0 : ρ (.tmp 12) = .pointer (some ⟨q, 0, none⟩))
                  exact opOk_run (v := .pointer (some ⟨q, 1, none⟩)) (w' := wx) (by go_simp) ⟨Below.refl _ _, rfl⟩
                · intro ph _ _ hS
                  intro (h0 : ρ (.tmp 167) = .pointer (some ⟨q, 1, none⟩))
                  have c := (Blk.x Q4.out hS.2 Xq.out).get 1 rfl
                  exact opOk_load _ _ rfl _ _ h0 (run_int_at _ _ _ _ c) ⟨Below.refl _ _, rfl⟩
                · intro ph _ _ hS
                  intro (h0 : ρ (.tmp 12) = .pointer (some ⟨q, 0, none⟩))
                  exact opOk_run (v := .pointer (some ⟨q, 2, none⟩)) (w' := wx) (by go_simp) ⟨Below.refl _ _, rfl⟩
                · intro ph _ _ hS
                  intro (h0 : ρ (.tmp 169) = .pointer (some ⟨q, 2, none⟩))
                  exact opOk_run (v := .pointer (some ⟨q, 6, none⟩)) (w' := wx) (by go_simp) ⟨Below.refl _ _, rfl⟩
                · intro ph _ _ hS
                  intro (h0 : ρ (.tmp 170) = .pointer (some ⟨q, 6, none⟩))
                  have c := (Blk.x Q4.out hS.2 Xq.out).get 6 rfl
                  exact opOk_load _ _ rfl _ _ h0 (run_bytes_at' _ _ _ _ c) ⟨Below.refl _ _, rfl⟩
                · intro hS
                  intro (h0 : ρ (.tmp 166) = M.p2) (h1 : ρ (.tmp 168) = .int .i64 o.i) (h2 : ρ (.tmp 171) = .slice ao kt co)
                  refine opOk_call (f := 32) (args := #[M.p2, .int .i64 o.i, .slice ao kt co]) (by go_simp) ?_
                  refine (M.write2 hS.1 o.i ao co kt o.x.data Oi.out (Pt.out.below (Bn.out.trans ((M.bel hS.1).mono Bn.out.size))) Lt.out (Fs.out.mono (by omega)) (offX_old Pt.out Bn.out.size)).mono ?_
                  rintro e w7 ⟨rfl, h7, k7⟩
                  exact ⟨_, rfl, trivial, ⟨h7, hS.2.trans k7⟩, rfl⟩
                · intro ph _ _ hS
                  intro (h0 : ρ (.tmp 165) = .int .i64 ((M.fwrite s o.i o.x.data).2 : Int)) (h1 : ρ (.tmp 172) = .int .i64 ((M.fwrite s o.i o.x.data).2 : Int))
                  exact opOk_run (v := .bool true) (w' := wx) (by go_simp) ⟨Below.refl _ _, rfl⟩
              · intro wz hS
                rintro _ rfl _ rfl _ rfl _ rfl _ rfl _ rfl _ rfl _ rfl _ rfl _ rfl _ rfl _ rfl _ rfl
                simp only [PutLast, Act.put, List.setIfInBounds_toArray, List.set_cons_succ, List.set_cons_zero]
                refine opOk_assignV (.tmp 173) (.bool true) rfl rfl ?_
                have hS9 := hid (show M.I X ((M.fwrite s o.i o.x.data).1) ((M.fwrite s o.i o.x.data).1) wz ∧ XKeep X w4 wz from hS)
                clear hS
                go_wp2_with fail
                go_meet
                have R9 : BpMid wn M k X w4 (.bool true) wz := ⟨_, rfl, hS9.out.1, M.few_write o.i o.x.data Fs.out, hS9.out.2⟩
                first | exact R9 | ((repeat apply Exists.intro); refine ⟨R9, ?_⟩; and_intros <;> rfl)
            · as_aux_lemma =>
              have e0 : ((dd : Int) == 0) = false := by rw [beq_eq_false_iff_ne]; omega
              have e1 : ((dd : Int) == 1) = false := by rw [beq_eq_false_iff_ne]; omega
              have e2 : ((dd : Int) == 2) = false := by rw [beq_eq_false_iff_ne]; omega
              have e3 : ((dd : Int) == 3) = false := by rw [beq_eq_false_iff_ne]; omega
              have e4 : ((dd : Int) == 4) = false := by rw [beq_eq_false_iff_ne]; omega
              have e5 : ((dd : Int) == 5) = false := by rw [beq_eq_false_iff_ne]; omega
              have e6 : ((dd : Int) == 6) = false := by rw [beq_eq_false_iff_ne]; omega
              have e7 : ((dd : Int) == 7) = true := by rw [beq_iff_eq]; omega
              have e8 : ((dd : Int) == 8) = false := by rw [beq_eq_false_iff_ne]; omega
              clear h
              go_upto_region 33 with fail
              refine wp_region_st 16 2 [.r 0 2, .r 0 2, .r 0 2, .r 0 2, .w 0, .r 0 2, .r 0 2, .r 0 2, .r 0 2, .r 0 2, .r 0 2, .w 1, .r 0 2] (fun ph w' => M.I X (match ph with | 0 => s | _ => (M.fcrash s o.x.data o.i).1) (match ph with | 0 => s | 1 => s | _ => (M.fcrash s o.x.data o.i).1) w' ∧ XKeep X w4 w') (fun _ _ => True) (fun idx v w' => match idx with
                | 0 => v = M.p1
                | 1 => v = .slice am kt cm
                | 2 | 9 => v = .pointer (some ⟨q, 1, none⟩)
                | 3 | 10 => v = .int .i64 o.i
                | 4 | 11 => v = .int .i64 ((M.fcrash s o.x.data o.i).2 : Int)
                | 5 => v = M.p2
                | 6 => v = .pointer (some ⟨q, 2, none⟩)
                | 7 => v = .pointer (some ⟨q, 6, none⟩)
                | 8 => v = .slice ao kt co
                | 12 => v = .bool true
                | _ => True) (by kernel_rfl) (by kernel_rfl) (by kernel_rfl) (by kernel_rfl) ?_ ?_ ?_ ?_ ?_ ?_
              · intro j v wx wy hR hb
                match j, hR with
                | 0, hR | 1, hR | 2, hR | 9, hR | 3, hR | 10, hR | 4, hR | 11, hR | 5, hR | 6, hR | 7, hR | 8, hR | 12, hR => exact hR
                | _ + 13, _ => trivial
              · intro j v wx wy hR hb
                match j, hR with
                | 0, hR | 1, hR | 2, hR | 9, hR | 3, hR | 10, hR | 4, hR | 11, hR | 5, hR | 6, hR | 7, hR | 8, hR | 12, hR => exact hR
                | _ + 13, _ => trivial
              · intro ph wx wy hS hb
                exact ⟨M.below hS.1 hb, hS.2.trans (M.keepX hS.1 hb)⟩
              · exact ⟨M.below T4.out (below_drew _), M.keepX T4.out (below_drew _)⟩
              · refine ⟨?_, ?_, ?_, ?_, ?_, ?_, ?_, ?_, ?_, ?_, ?_, ?_, ?_, trivial⟩
                all_goals intro ρ wx hc hg hf
                · intro ph _ _ hS
                  intro h0; exact opOk_move _ rfl ⟨Below.refl _ _, h0⟩
                · intro ph _ _ hS
                  intro h0; exact opOk_move _ rfl ⟨Below.refl _ _, h0⟩
                · intro ph _ _ hS
                  intro (h0 : ρ (.tmp 12) = .pointer (some ⟨q, 0, none⟩))
                  exact opOk_run (v := .pointer (some ⟨q, 1, none⟩)) (w' := wx) (by go_simp) ⟨Below.refl _ _, rfl⟩
                · intro ph _ _ hS
                  intro (h0 : ρ (.tmp 178) = .pointer (some ⟨q, 1, none⟩))
                  have c := (Blk.x Q4.out hS.2 Xq.out).get 1 rfl
                  exact opOk_load _ _ rfl _ _ h0 (run_int_at _ _ _ _ c) ⟨Below.refl _ _, rfl⟩
                · intro hS
                  intro (h0 : ρ (.tmp 176) = M.p1) (h1 : ρ (.tmp 177) = .slice am kt cm) (h2 : ρ (.tmp 179) = .int .i64 o.i)
                  obtain ⟨b1, b2, b3⟩ := ob_arg (wn := wn) (OB.x Om.out hS.2 Xm.out) Xm.out
                  refine opOk_call (f := 33) (args := #[M.p1, .slice am kt cm, .int .i64 o.i]) (by go_simp) ?_
                  refine (M.crash1 hS.1 am cm kt o.x.data o.i Oi.out b1 b2 b3).mono ?_
                  rintro e w7 ⟨rfl, h7, k7⟩
                  exact ⟨_, rfl, trivial, ⟨h7, hS.2.trans k7⟩, rfl⟩
                · intro ph _ _ hS
                  intro h0; exact opOk_move _ rfl ⟨Below.refl _ _, h0⟩
                · intro ph _ _ hS
                  intro (h0 : ρ (.tmp 12) = .pointer (some ⟨q, 0, none⟩))
                  exact opOk_run (v := .pointer (some ⟨q, 2, none⟩)) (w' := wx) (by go_simp) ⟨Below.refl _ _, rfl⟩
                · intro ph _ _ hS
                  intro (h0 : ρ (.tmp 182) = .pointer (some ⟨q, 2, none⟩))
                  exact opOk_run (v := .pointer (some ⟨q, 6, none⟩)) (w' := wx) (by go_simp) ⟨Below.refl _ _, rfl⟩
                · intro ph _ _ hS
                  intro (h0 : ρ (.tmp 183) = .pointer (some ⟨q, 6, none⟩))
                  have c := (Blk.x Q4.out hS.2 Xq.out).get 6 rfl
                  exact opOk_load _ _ rfl _ _ h0 (run_bytes_at' _ _ _ _ c) ⟨Below.refl _ _, rfl⟩
                · intro ph _ _ hS
                  intro (h0 : ρ (.tmp 12) = .pointer (some ⟨q, 0, none⟩))
                  exact opOk_run (v := .pointer (some ⟨q, 1, none⟩)) (w' := wx) (by go_simp) ⟨Below.refl _ _, rfl⟩
                · intro ph _ _ hS
                  intro (h0 : ρ (.tmp 185) = .pointer (some ⟨q, 1, none⟩))
                  have c := (Blk.x Q4.out hS.2 Xq.out).get 1 rfl
                  exact opOk_load _ _ rfl _ _ h0 (run_int_at _ _ _ _ c) ⟨Below.refl _ _, rfl⟩
                · intro hS
                  intro (h0 : ρ (.tmp 181) = M.p2) (h1 : ρ (.tmp 184) = .slice ao kt co) (h2 : ρ (.tmp 186) = .int .i64 o.i)
                  refine opOk_call (f := 34) (args := #[M.p2, .slice ao kt co, .int .i64 o.i]) (by go_simp) ?_
                  refine (M.crash2 hS.1 ao co kt o.x.data o.i Oi.out (Pt.out.below (Bn.out.trans ((M.bel hS.1).mono Bn.out.size))) Lt.out (offX_old Pt.out Bn.out.size)).mono ?_
                  rintro e w7 ⟨rfl, h7, k7⟩
                  exact ⟨_, rfl, trivial, ⟨h7, hS.2.trans k7⟩, rfl⟩
                · intro ph _ _ hS
                  intro (h0 : ρ (.tmp 180) = .int .i64 ((M.fcrash s o.x.data o.i).2 : Int)) (h1 : ρ (.tmp 187) = .int .i64 ((M.fcrash s o.x.data o.i).2 : Int))
                  exact opOk_run (v := .bool true) (w' := wx) (by go_simp) ⟨Below.refl _ _, rfl⟩
              · intro wz hS
                rintro _ rfl _ rfl _ rfl _ rfl _ rfl _ rfl _ rfl _ rfl _ rfl _ rfl _ rfl _ rfl _ rfl
                simp only [PutLast, Act.put, List.setIfInBounds_toArray, List.set_cons_succ, List.set_cons_zero]
                refine opOk_assignV (.tmp 188) (.bool true) rfl rfl ?_
                have hS9 := hid (show M.I X ((M.fcrash s o.x.data o.i).1) ((M.fcrash s o.x.data o.i).1) wz ∧ XKeep X w4 wz from hS)
                clear hS
                go_wp2_with fail
                go_meet
                have R9 : BpMid wn M k X w4 (.bool true) wz := ⟨_, rfl, hS9.out.1, M.few_crash o.x.data o.i Fs.out, hS9.out.2⟩
                first | exact R9 | ((repeat apply Exists.intro); refine ⟨R9, ?_⟩; and_intros <;> rfl)
            · as_aux_lemma =>
              have e0 : ((dd : Int) == 0) = false := by rw [beq_eq_false_iff_ne]; omega
              have e1 : ((dd : Int) == 1) = false := by rw [beq_eq_false_iff_ne]; omega
              have e2 : ((dd : Int) == 2) = false := by rw [beq_eq_false_iff_ne]; omega
              have e3 : ((dd : Int) == 3) = false := by rw [beq_eq_false_iff_ne]; omega
              have e4 : ((dd : Int) == 4) = false := by rw [beq_eq_false_iff_ne]; omega
              have e5 : ((dd : Int) == 5) = false := by rw [beq_eq_false_iff_ne]; omega
              have e6 : ((dd : Int) == 6) = false := by rw [beq_eq_false_iff_ne]; omega
              have e7 : ((dd : Int) == 7) = false := by rw [beq_eq_false_iff_ne]; omega
              have e8 : ((dd : Int) == 8) = true := by rw [beq_iff_eq]; omega
              clear h
              go_upto_region 35 with fail
              refine wp_region_st 12 2 [.r 0 2, .r 0 2, .r 0 2, .w 0, .r 0 2, .r 0 2, .r 0 2, .w 1, .r 0 2] (fun ph w' => M.I X (match ph with | 0 => s | _ => (M.farm s o.i).1) (match ph with | 0 => s | 1 => s | _ => (M.farm s o.i).1) w' ∧ XKeep X w4 w') (fun _ _ => True) (fun idx v w' => match idx with
                | 0 => v = M.p1
                | 1 | 5 => v = .pointer (some ⟨q, 1, none⟩)
                | 2 | 6 => v = .int .i64 o.i
                | 3 | 7 => v = .int .i64 ((M.farm s o.i).2 : Int)
                | 4 => v = M.p2
                | 8 => v = .bool true
                | _ => True) (by kernel_rfl) (by kernel_rfl) (by kernel_rfl) (by kernel_rfl) ?_ ?_ ?_ ?_ ?_ ?_
              · intro j v wx wy hR hb
                match j, hR with
                | 0, hR | 1, hR | 5, hR | 2, hR | 6, hR | 3, hR | 7, hR | 4, hR | 8, hR => exact hR
                | _ + 9, _ => trivial
              · intro j v wx wy hR hb
                match j, hR with
                | 0, hR | 1, hR | 5, hR | 2, hR | 6, hR | 3, hR | 7, hR | 4, hR | 8, hR => exact hR
                | _ + 9, _ => trivial
              · intro ph wx wy hS hb
                exact ⟨M.below hS.1 hb, hS.2.trans (M.keepX hS.1 hb)⟩
              · exact ⟨M.below T4.out (below_drew _), M.keepX T4.out (below_drew _)⟩
              · refine ⟨?_, ?_, ?_, ?_, ?_, ?_, ?_, ?_, ?_, trivial⟩
                all_goals intro ρ wx hc hg hf
                · intro ph _ _ hS
                  intro h0; exact opOk_move _ rfl ⟨Below.refl _ _, h0⟩
                · intro ph _ _ hS
                  intro (h0 : ρ (.tmp 12) = .pointer (some ⟨q, 0, none⟩))
                  exact opOk_run (v := .pointer (some ⟨q, 1, none⟩)) (w' := wx) (by go_simp) ⟨Below.refl _ _, rfl⟩
                · intro ph _ _ hS
                  intro (h0 : ρ (.tmp 192) = .pointer (some ⟨q, 1, none⟩))
                  have c := (Blk.x Q4.out hS.2 Xq.out).get 1 rfl
                  exact opOk_load _ _ rfl _ _ h0 (run_int_at _ _ _ _ c) ⟨Below.refl _ _, rfl⟩
                · intro hS
                  intro (h0 : ρ (.tmp 191) = M.p1) (h1 : ρ (.tmp 193) = .int .i64 o.i)
                  refine opOk_call (f := 35) (args := #[M.p1, .int .i64 o.i]) (by go_simp) ?_
                  refine (M.arm1 hS.1 o.i Oi.out.2).mono ?_
                  rintro e w7 ⟨rfl, h7, k7⟩
                  exact ⟨_, rfl, trivial, ⟨h7, hS.2.trans k7⟩, rfl⟩
                · intro ph _ _ hS
                  intro h0; exact opOk_move _ rfl ⟨Below.refl _ _, h0⟩
                · intro ph _ _ hS
                  intro (h0 : ρ (.tmp 12) = .pointer (some ⟨q, 0, none⟩))
                  exact opOk_run (v := .pointer (some ⟨q, 1, none⟩)) (w' := wx) (by go_simp) ⟨Below.refl _ _, rfl⟩
                · intro ph _ _ hS
                  intro (h0 : ρ (.tmp 196) = .pointer (some ⟨q, 1, none⟩))
                  have c := (Blk.x Q4.out hS.2 Xq.out).get 1 rfl
                  exact opOk_load _ _ rfl _ _ h0 (run_int_at _ _ _ _ c) ⟨Below.refl _ _, rfl⟩
                · intro hS
                  intro (h0 : ρ (.tmp 195) = M.p2) (h1 : ρ (.tmp 197) = .int .i64 o.i)
                  refine opOk_call (f := 36) (args := #[M.p2, .int .i64 o.i]) (by go_simp) ?_
                  refine (M.arm2 hS.1 o.i Oi.out.2).mono ?_
                  rintro e w7 ⟨rfl, h7, k7⟩
                  exact ⟨_, rfl, trivial, ⟨h7, hS.2.trans k7⟩, rfl⟩
                · intro ph _ _ hS
                  intro (h0 : ρ (.tmp 194) = .int .i64 ((M.farm s o.i).2 : Int)) (h1 : ρ (.tmp 198) = .int .i64 ((M.farm s o.i).2 : Int))
                  exact opOk_run (v := .bool true) (w' := wx) (by go_simp) ⟨Below.refl _ _, rfl⟩
              · intro wz hS
                rintro _ rfl _ rfl _ rfl _ rfl _ rfl _ rfl _ rfl _ rfl _ rfl
                simp only [PutLast, Act.put, List.setIfInBounds_toArray, List.set_cons_succ, List.set_cons_zero]
                refine opOk_assignV (.tmp 199) (.bool true) rfl rfl ?_
                have hS9 := hid (show M.I X ((M.farm s o.i).1) ((M.farm s o.i).1) wz ∧ XKeep X w4 wz from hS)
                clear hS
                go_wp2_with fail
                go_meet
                have R9 : BpMid wn M k X w4 (.bool true) wz := ⟨_, rfl, hS9.out.1, M.few_arm o.i Fs.out, hS9.out.2⟩
                first | exact R9 | ((repeat apply Exists.intro); refine ⟨R9, ?_⟩; and_intros <;> rfl)
            · as_aux_lemma =>
              have e0 : ((dd : Int) == 0) = false := by rw [beq_eq_false_iff_ne]; omega
              have e1 : ((dd : Int) == 1) = false := by rw [beq_eq_false_iff_ne]; omega
              have e2 : ((dd : Int) == 2) = false := by rw [beq_eq_false_iff_ne]; omega
              have e3 : ((dd : Int) == 3) = false := by rw [beq_eq_false_iff_ne]; omega
              have e4 : ((dd : Int) == 4) = false := by rw [beq_eq_false_iff_ne]; omega
              have e5 : ((dd : Int) == 5) = false := by rw [beq_eq_false_iff_ne]; omega
              have e6 : ((dd : Int) == 6) = false := by rw [beq_eq_false_iff_ne]; omega
              have e7 : ((dd : Int) == 7) = false := by rw [beq_eq_false_iff_ne]; omega
              have e8 : ((dd : Int) == 8) = false := by rw [beq_eq_false_iff_ne]; omega
              clear h
              go_wp2_with fail
              go_meet
              have R9 : BpMid wn M k X w4 (.bool true) w4 := ⟨_, rfl, T4.out, Fs.out.mono (by omega), fun _ _ => rfl⟩
              first | exact R9 | ((repeat apply Exists.intro); refine ⟨R9, ?_⟩; and_intros <;> rfl)
          case rest =>
            obtain ⟨s2, rfl, hI5, hF5, hK5⟩ := hcut
            have T5 := hid hI5
            have F5 := hid hF5
            have c6 := (Blk.x Q4.out hK5 Xq.out).get 6 rfl
            obtain ⟨b1, b2, b3⟩ := ob_arg (wn := wn) (OB.x Om.out hK5 Xm.out) Xm.out
            have HS := hid (same_n am ao kt kt cm co o.x.data o.x.data wc b1 (Pt.out.below (Bn.out.trans ((M.bel T5.out).mono Bn.out.size))) Lt.out Lt.out)
            clear hI5 hF5 hK5 b1 b2 b3
            go_wp2_with (go_at_call 22; go_loud (refine HS.out.mono ?_; rintro e w9 ⟨rfl, rfl⟩; rw [beq_self_eq_true]))
            have R : BpRel wn M l0.length (.int .i64 ((k : Int) + 1)) wc := ⟨k + 1, s2, by go_num, by omega, by omega, M.less T5.out, F5.out⟩
            refine ⟨?_, by simp [intOf]; omega⟩
            first | exact R | ((repeat apply Exists.intro); refine ⟨R, ?_⟩; and_intros <;> rfl)
        · have h40' : (40 : Int) ≤ (k : Int) := by omega
          go_wp2_with fail
          go_ret
          exact ⟨rfl, WQ.out⟩
      · have hkl' : ¬ ((k : Int) < (l0.length : Int)) := by omega
        go_wp2_with fail
        go_ret
        exact ⟨rfl, Bn.out.trans ((M.bel T.out).mono Bn.out.size)⟩
end Go.Proofs.YtkaidbfpgdfpfaaDoor
