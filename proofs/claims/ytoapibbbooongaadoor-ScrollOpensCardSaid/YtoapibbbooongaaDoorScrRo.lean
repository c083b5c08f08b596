/- The walks of layer 7: the document's opening. -/
import Derived.Test.YtoapibbbooongaaDoorScrBat
import Derived.RegionTactic
import Derived.BigRegion
namespace Go.Proofs.YtoapibbbooongaaDoor
open Go.RowKit Go.Quad _root_.Quad _root_.Quad.Slab _root_.Quad.Ink

theorem rfits_calls (w : World) (F : Nat → Prop) (B g dn dc : Nat) (wv : Value) (s : Sl) (size : Int) (h : IsRf w F B g dn dc wv s) (hz : -9223372036854775808 ≤ size ∧ size ≤ 9223372036854775807) (hl : s.done.length ≤ 100000) :
    Calls Tryd.prog 71 #[.pointer (some ⟨g, 0, none⟩), .int .i64 size] w fun e w' => e = .returned (.int .i64 (fitsS s size : Int)) ∧ w = w' := by
  have c0 := h.own.get 0 rfl
  have hl' : (s.done.length : Int) ≤ 100000 := by omega
  obtain ⟨D, hD⟩ : ∃ D, s.done.length = D := ⟨_, rfl⟩
  rw [hD] at c0 hl'
  have HD := hid hD
  clear h hl hD
  go_enter Tryd.func71, Tryd.ntmps71
  by_cases h1 : size < 1
  · have e : fitsS s size = 1 := by unfold fitsS; rw [if_pos (.inl h1)]
    have E := hid e
    clear e
    go_wp2_with fail
    go_ret
    rw [E.out]
    exact ⟨rfl, rfl⟩
  by_cases h2 : 4096 < size
  · have e : fitsS s size = 1 := by unfold fitsS; rw [if_pos (.inr (.inl h2))]
    have E := hid e
    clear e
    go_wp2_with fail
    go_ret
    rw [E.out]
    exact ⟨rfl, rfl⟩
  by_cases h3 : (D : Int) < 2 + 2 * size
  · have e : fitsS s size = 1 := by unfold fitsS; rw [HD.out, if_pos (.inr (.inr h3))]
    have E := hid e
    clear e
    go_wp2_with fail
    go_ret
    rw [E.out]
    exact ⟨rfl, rfl⟩
  · have e : fitsS s size = 0 := by unfold fitsS; rw [HD.out, if_neg (by omega)]
    have E := hid e
    clear e
    go_wp2_with fail
    go_ret
    rw [E.out]
    exact ⟨rfl, rfl⟩
theorem readGo_first {G : Nat → BlkD × Nat} {gen : Nat} : ∀ (n k : Nat) (q : Rd), (q.out = [] → q.next = 0) → (q.out ≠ [] → (q.out.headD []).length = 1) → (readGo G gen n k q).out ≠ [] → ((readGo G gen n k q).out.headD []).length = 1
  | 0, _, q, _, h, hn => h hn
  | n + 1, k, q, h0, h, hn => by
    unfold readGo at hn ⊢
    cases hs : stepRd G gen k q with
    | none => rw [hs] at hn; exact h hn
    | some q' =>
      rw [hs] at hn
      dsimp only at hn ⊢
      refine readGo_first n (k + 1) q' (fun he => ?_) (fun he => ?_) hn
      · unfold stepRd at hs
        split at hs
        · split at hs
          · cases hs; exact h0 he
          · split at hs
            · cases hs
            · cases hs
              exact absurd he (by simp)
        · cases hs
      · unfold stepRd at hs
        split at hs
        · split at hs
          · cases hs; exact h he
          · split at hs
            · cases hs
            · rename_i hb
              cases hs
              show ((q.out ++ [_]).headD []).length = 1
              cases ho : q.out with
              | nil =>
                have h1 := h0 ho
                simp only [List.nil_append, List.headD_cons]
                apply Classical.byContradiction
                intro h2
                exact hb (.inr ⟨h1, h2⟩)
              | cons a l =>
                have h1 := h (by rw [ho]; simp)
                rw [ho] at h1
                exact h1
        · cases hs
theorem readS_first {s : Sl} {size : Nat} {r : RootD} (h : (readS s size r).out ≠ []) : ((readS s size r).out.headD []).length = 1 := readGo_first _ _ _ (fun _ => rfl) (fun h => absurd rfl h) h
theorem readGo_few {s : Sl} {size area gen : Nat} : ∀ (n k : Nat) (q : Rd), q.next ≤ k → q.p.length ≤ 104 * (k - q.next) → q.out.flatten.length ≤ 104 * q.next → (readGo (seeA s size area) gen n k q).out.flatten.length ≤ 104 * (readGo (seeA s size area) gen n k q).next ∧ (readGo (seeA s size area) gen n k q).next ≤ k + n
  | 0, k, q, h1, _, h3 => ⟨h3, h1⟩
  | n + 1, k, q, h1, h2, h3 => by
    have hd : (seeA s size area k).1.data.length ≤ 104 := getB_104 _ _
    unfold readGo
    cases hs : stepRd (seeA s size area) gen k q with
    | none => exact ⟨h3, Nat.le_trans h1 (by omega)⟩
    | some q' =>
      dsimp only
      have key : q'.next ≤ k + 1 ∧ q'.p.length ≤ 104 * (k + 1 - q'.next) ∧ q'.out.flatten.length ≤ 104 * q'.next := by
        unfold stepRd at hs
        split at hs
        · split at hs
          · cases hs
            refine ⟨by show q.next ≤ k + 1; omega, ?_, h3⟩
            show (q.p ++ _).length ≤ 104 * (k + 1 - q.next)
            rw [List.length_append]; omega
          · split at hs
            · cases hs
            · cases hs
              refine ⟨Nat.le_refl _, Nat.zero_le _, ?_⟩
              show (q.out ++ [_]).flatten.length ≤ 104 * (k + 1)
              have hl := splitL_len (q.p ++ (seeA s size area k).1.data)
              rw [List.length_append] at hl
              simp only [List.flatten_append, List.flatten_cons, List.flatten_nil, List.append_nil, List.length_append]
              omega
        · cases hs
      obtain ⟨k1, k2, k3⟩ := key
      have := readGo_few (s := s) (size := size) (area := area) (gen := gen) n (k + 1) q' k1 k2 k3
      exact ⟨this.1, by have := this.2; omega⟩
theorem readS_few (s : Sl) (size : Nat) (r : RootD) : (readS s size r).out.flatten.length ≤ 104 * size := by
  have h := readGo_few (s := s) (size := size) (area := r.area) (gen := r.gen) size 0 ⟨0, 0, [], []⟩ (Nat.le_refl _) (by simp) (by simp)
  have h1 : (readS s size r).out.flatten.length ≤ 104 * (readS s size r).next := h.1
  have h2 : (readS s size r).next ≤ 0 + size := h.2
  omega
theorem opOk_cutL {o : Oper} {ρ : Operand → Value} {w : World} {K : Value → World → Prop} (x lo : Operand) (ho : o.op = Op.slice 75 x (some lo) none none)
    {b off n cap M : Nat} (hx : ρ x = .slice (some ⟨b, off, none⟩) n cap) (hlo : ρ lo = .int .i64 1) (h1 : 1 ≤ n) (hnc : n ≤ cap) (hM : n - 1 = M)
    (hK : ∀ a', (1 < n → a' = some ⟨b, off + 1, none⟩) → K (.slice a' M (cap - 1)) w) : OpOk Tryd.prog o ρ w K := by
  subst hM
  obtain ⟨info, i1, _, i3, _⟩ := info_parts info_slbs2
  have hr := run_slice_cut0 (P := Tryd.prog) (w := w) 75 34 info 1 under_slbs2 i1 i3 (a := some ⟨b, off, none⟩) (n := n) (cap := cap) (some (ρ lo)) none 1 n
    (.inl (by rw [hlo]; rfl)) (.inr ⟨rfl, rfl⟩) h1 hnc
  refine opOk_run (v := .slice (if cap = 1 then some ⟨b, off, none⟩ else (some (⟨b, off, none⟩ : Addr)).map (·.add (1 * 1))) (n - 1) (cap - 1)) (w' := w) ?_ (hK _ fun h => ?_)
  · simp only [execOp, ho, hx, Sem.run_bind, Result.andThen, Sem.run_pure]
    simp [hr, Instr.sliceAt, run_underlying under_slbs2, Result.andThen]
  · rw [if_neg (by omega)]
    rfl
def RoRel (w6 : World) (g q : Nat) (c : Scr) (sv : Value) (L' : List BRow) (iv : Value) (wr : World) : Prop :=
  ∃ (j : Nat) (acc : List TS) (rv : Value), iv = .int .i64 (j : Int) ∧ j ≤ L'.length ∧ acc.map TS.p = ((L'.map (fun x => x.1.map TS.p)).take j).flatten ∧ RO tsV 1 wr w6.heap.size 33 rv acc ∧ (∀ t ∈ acc, BS w6 t.a t.c t.p) ∧ Blk wr q (scrV g c sv rv) 148 ∧ Below w6.heap.size w6 wr ∧ rv.ownBlock ≠ some q
theorem flatten_take_le {α : Type} (l : List (List α)) (j : Nat) : (l.take j).flatten.length ≤ l.flatten.length := by
  conv => rhs; rw [← List.take_append_drop j l, List.flatten_append, List.length_append]
  omega
/-- the document's scroll in memory -/
structure XScr (w : World) (B g q : Nat) (sv rv : Value) (ts : List TS) (c : Scr) : Prop where
  own : Blk w q (scrV g c sv rv) 148
  snap : TX w AnyB sv c.snap
  row : RO tsV 1 w B 33 rv ts
  tx : ∀ t ∈ ts, BS w t.a t.c t.p
  recs : ts.map TS.p = c.recs
  few : c.recs.length ≤ 1000000
def ROpenTo (w : World) (F : Nat → Prop) (B g dn dc : Nat) (x : Sl × Option Scr × Nat) (e : Ending) (w' : World) : Prop :=
  Chg [g, dn] w w' ∧ ∃ wv' F', IsRf w' F' B g dn dc wv' x.1 ∧ (∀ k, F' k → F k ∨ w.heap.size ≤ k) ∧ match x.2.1 with
    | none => e = .returned (.tuple #[.pointer none, .int .i64 (x.2.2 : Int)])
    | some c => ∃ q sv rv ts, e = .returned (.tuple #[.pointer (some ⟨q, 0, none⟩), .int .i64 0]) ∧ XScr w' w.heap.size g q sv rv ts c
theorem ropen_no {w w' : World} {F : Nat → Prop} {B g dn dc : Nat} {wv : Value} {s : Sl} {r : Nat} (h : IsRf w F B g dn dc wv s) (hb : Below w.heap.size w w') : ROpenTo w F B g dn dc (s, none, r) (.returned (.tuple #[.pointer none, .int .i64 (r : Int)])) w' := ⟨Chg.of_below _ hb, wv, F, h.below hb, fun _ h => .inl h, rfl⟩
set_option maxRecDepth 100000 in
set_option maxHeartbeats 8000000 in
theorem ropen_calls (w : World) (F : Nat → Prop) (B g dn dc : Nat) (wv : Value) (s : Sl) (size : Int) (h : IsRf w F B g dn dc wv s) (hz : -9223372036854775808 ≤ size ∧ size ≤ 9223372036854775807) (hl : s.done.length ≤ 100000) (hst : s.steps + 10 < 1000000) (hw : s.way.length + 10 < 1000000) :
    Calls Tryd.prog 30 #[.pointer (some ⟨g, 0, none⟩), .int .i64 size] w (ROpenTo w F B g dn dc (openS s size)) := by
  have H := hid h
  have HST := hid hst
  have HW := hid hw
  have CF := hid (rfits_calls w F B g dn dc wv s size h hz hl)
  have CL := hid (rload_calls w F B g dn dc wv s h)
  obtain ⟨F0, hF⟩ : ∃ F0, fitsS s size = F0 := ⟨_, rfl⟩
  have HF := hid hF
  rw [hF] at CF
  obtain ⟨⟨r, e0⟩, hL⟩ : ∃ L, loadB s = L := ⟨_, rfl⟩
  have HLD := hid hL
  unfold LoadTo at CL
  rw [hL] at CL
  dsimp only at CL
  clear h hst hw hF hL
  go_enter Tryd.func30, Tryd.ntmps30
  go_upto_region 2 with (go_at_call 71; go_must (refine CF.out.mono ?_; rintro e w1 ⟨rfl, rfl⟩; dsimp only))
  by_cases hf0 : F0 = 0
  case neg =>
    have hf' : ((F0 : Int) != 0) = true := by rw [bne_iff_ne]; omega
    have e2 : openS s size = (s, none, F0) := by unfold openS; rw [HF.out, if_pos hf0]
    have E2 := hid e2
    clear e2 hf0
    go_wp2_with fail
    go_ret2
    rw [E2.out]
    exact ropen_no H.out (Below.refl _ _)
  subst hf0
  go_upto_region 4 with fail
  go_upto_region 5 with (go_at_call 72; go_must (refine CL.out.mono ?_; rintro e w1 ⟨rfl, hb1⟩; have B1 := hid hb1; clear hb1; dsimp only))
  by_cases h0 : e0 = 0
  case neg =>
    have h0' : ((e0 : Int) != 0) = true := by rw [bne_iff_ne]; omega
    have e2 : openS s size = (s, none, e0) := by unfold openS; rw [HF.out, if_neg (by simp), HLD.out, if_pos (by simpa using h0)]
    have E2 := hid e2
    clear e2 h0
    go_wp2_with fail
    go_ret2
    rw [E2.out]
    exact ropen_no H.out (B1.out.trans ((below_alloc w1 _).mono B1.out.size))
  subst h0
  have hfo := fitsS_ok HF.out
  obtain ⟨z, rfl⟩ : ∃ z : Nat, size = (z : Int) := ⟨size.toNat, by omega⟩
  have hz4 : (z : Int) ≤ 4096 := hfo.2.1
  have HFO := hid hfo
  have LOK := hid (loadB_ok HLD.out)
  have LON := hid (loadB_on HLD.out)
  have htl : ¬ (4294967296 ≤ (r.turn : Int)) := by have := LOK.out.1.turn; omega
  have hel : ¬ (4294967296 ≤ (r.epoch : Int)) := by have := LOK.out.1.epoch; omega
  clear hfo CL CF
  have b2 := below_alloc w1 (.cells #[.int .u32 (r.turn : Int), .int .u32 (r.epoch : Int), .int .u32 (r.gen : Int), .int .u8 (r.area : Int)] 141)
  have k2 := blk_alloc w1 [.int .u32 (r.turn : Int), .int .u32 (r.epoch : Int), .int .u32 (r.gen : Int), .int .u8 (r.area : Int)] 141
  obtain ⟨y, hy⟩ : ∃ y, w1.heap.size = y := ⟨_, rfl⟩
  have B2 := hid (B1.out.trans (b2.mono B1.out.size))
  have HY := hid (show w.heap.size ≤ y from by rw [← hy]; exact B1.out.size)
  rw [hy] at k2 ⊢
  have K2 := hid k2
  clear b2 k2 hy
  generalize (w1.alloc (.cells #[.int .u32 (r.turn : Int), .int .u32 (r.epoch : Int), .int .u32 (r.gen : Int), .int .u8 (r.area : Int)] 141)) = w2 at B2 K2 ⊢
  have k20 := K2.out.get 0 rfl
  have k21 := K2.out.get 1 rfl
  have k22 := K2.out.get 2 rfl
  have k23 := K2.out.get 3 rfl
  have CB := hid (rbatches_calls w2 F B g dn dc wv s z r (H.out.below B2.out) LOK.out.1 LOK.out.2 (by omega) (by have := HFO.out.2.2; omega) LON.out)
  go_upto_region 8 with (go_at_call 73; go_must (refine CB.out.mono ?_; rintro e w3 ⟨ov, L, rfl, hb3, hLo, hrow, htx⟩; obtain ⟨oa, on, oc, rfl, hon, hoc, hcs⟩ := hrow.cs; have B23 := hid hb3; have B3 := hid (B2.out.trans (hb3.mono B2.out.size)); have K3 := hid (K2.out.below hb3); have LO := hid hLo; have TXL := hid htx; have ROW := hid hrow; have ON := hid hon; have OC := hid hoc; have OCS := hid hcs; clear hb3 hLo hrow htx hon hoc hcs; dsimp only))
  clear k20 k21 k22 k23
  by_cases h0 : on = 0
  · have e2 : openS s (z : Int) = (s, none, 4) := by
      unfold openS
      rw [HF.out, if_neg (by simp), HLD.out, if_neg (by simp), Int.toNat_natCast, if_pos (by rw [← LO.out, List.length_map, ON.out, h0])]
    have E2 := hid e2
    subst h0
    clear e2
    go_wp2_with fail
    go_ret2
    rw [E2.out]
    exact ropen_no H.out B3.out
  have hon0 : ((on : Int) == 0) = false := by rw [beq_eq_false_iff_ne]; omega
  have hon1 : 1 ≤ on := by omega
  have NE4 := hid (show ¬ (readS s z r).out.length = 0 from by rw [← LO.out, List.length_map, ON.out]; exact h0)
  clear h0
  have k30 := K3.out.get 0 rfl
  have k31 := K3.out.get 1 rfl
  by_cases hbig : r.epoch = 4294967295 ∨ r.turn = 4294967295
  · have e2 : openS s (z : Int) = (s, none, 8) := by
      unfold openS
      rw [HF.out, if_neg (by simp), HLD.out, if_neg (by simp), Int.toNat_natCast, if_neg NE4.out, if_pos hbig]
    have E2 := hid e2
    have HBG := hid hbig
    clear e2 hbig
    by_cases he : r.epoch = 4294967295
    · have he' : ((r.epoch : Int) == 4294967295) = true := by rw [he]; rfl
      clear he
      go_wp2_with fail
      go_ret2
      rw [E2.out]
      exact ropen_no H.out B3.out
    · have he' : ((r.epoch : Int) == 4294967295) = false := by rw [beq_eq_false_iff_ne]; omega
      have ht' : ((r.turn : Int) == 4294967295) = true := by
        rcases HBG.out with h | h
        · exact absurd h he
        · rw [h]; rfl
      clear he
      go_wp2_with fail
      go_ret2
      rw [E2.out]
      exact ropen_no H.out B3.out
  have he' : ((r.epoch : Int) == 4294967295) = false := by rw [beq_eq_false_iff_ne]; omega
  have ht' : ((r.turn : Int) == 4294967295) = false := by rw [beq_eq_false_iff_ne]; omega
  have hel2 : ¬ (4294967295 ≤ (r.epoch : Int)) := by omega
  have htl2 : ¬ (4294967295 ≤ (r.turn : Int)) := by omega
  have HBG := hid hbig
  have f30 := K3.out.free 0
  have f31 := K3.out.free 1
  clear hbig
  go_upto_region 14 with fail
  have hc4 : Chg [y] w3 ((w3.setCell ⟨y, 1, none⟩ (.int .u32 ((r.epoch : Int) + 1))).setCell ⟨y, 0, none⟩ (.int .u32 ((r.turn : Int) + 1))) := (chg_setCell w3 y 1 (.int .u32 ((r.epoch : Int) + 1))).trans (chg_setCell _ y 0 (.int .u32 ((r.turn : Int) + 1)))
  have hk4 := (K3.out.set 1 (.int .u32 ((r.epoch : Int) + 1))).set 0 (.int .u32 ((r.turn : Int) + 1))
  obtain ⟨w4, hw4⟩ : ∃ w4, ((w3.setCell ⟨y, 1, none⟩ (.int .u32 ((r.epoch : Int) + 1))).setCell ⟨y, 0, none⟩ (.int .u32 ((r.turn : Int) + 1))) = w4 := ⟨_, rfl⟩
  rw [hw4] at hc4 hk4 ⊢
  have hnok : (nextR r).Ok := ⟨by show r.turn + 1 < _; have := LOK.out.1.turn; omega, by show r.epoch + 1 < _; have := LOK.out.1.epoch; omega, LOK.out.1.gen, LOK.out.1.area⟩
  have CC4 := hid (show Below w.heap.size w w4 from B3.out.trans (hc4.below B3.out.size (fun k hk => by rw [List.mem_singleton] at hk; subst hk; exact HY.out)))
  have YN := hid (show y < w2.heap.size from K2.out.lt)
  have H4 := hid (H.out.below CC4.out)
  have CS := hid (show Calls Tryd.prog 74 #[.pointer (some ⟨g, 0, none⟩), .agg #[.int .u32 ((r.turn : Int) + 1), .int .u32 ((r.epoch : Int) + 1), .int .u32 (r.gen : Int), .int .u8 (r.area : Int)]] w4 (RfTo w4 F B g dn dc (storeB s (nextR r)).1 (storeB s (nextR r)).2) from
    rstore_calls w4 F B g dn dc wv s (nextR r) H4.out hnok (by have := HST.out; omega) (by have := HW.out; omega))
  obtain ⟨P6, hP6⟩ : ∃ P6, storeB s (nextR r) = P6 := ⟨_, rfl⟩
  have HP6 := hid hP6
  rw [hP6] at CS
  obtain ⟨s6, r6⟩ := P6
  dsimp only at CS
  have K4 := hid (show Blk w4 y [.int .u32 ((r.turn : Int) + 1), .int .u32 ((r.epoch : Int) + 1), .int .u32 (r.gen : Int), .int .u8 (r.area : Int)] 141 from hk4)
  have C34 := hid hc4
  clear hP6 hc4 hk4 hw4 k30 k31 f30 f31
  have x0 := K4.out.get 0 rfl
  have x1 := K4.out.get 1 rfl
  have x2 := K4.out.get 2 rfl
  have x3 := K4.out.get 3 rfl
  go_upto_region 15 with (go_at_call 74; go_must (refine CS.out.mono ?_; rintro e w6 ht; obtain ⟨wv6, rfl, h6, hc6⟩ := ht; have H6 := hid h6; have C6 := hid hc6; clear h6 hc6; dsimp only))
  have GD := hid (show g < w.heap.size ∧ dn < w.heap.size from ⟨(H.out.lt g H.out.inF.1).2, (H.out.lt dn H.out.inF.2.1).2⟩)
  have CH6 := hid (show Chg [g, dn] w w6 from (Chg.of_below _ CC4.out).trans C6.out)
  have FN := hid (show ∀ k, Fnew F w4.heap.size w6 k → F k ∨ w.heap.size ≤ k from fun k hk => by
    rcases hk with h | h
    · exact .inl h
    · exact .inr (Nat.le_trans CC4.out.size h.1))
  by_cases h0r : r6 = 0
  case neg =>
    have h0r' : ((r6 : Int) != 0) = true := by rw [bne_iff_ne]; omega
    have e2 : openS s (z : Int) = (s6, none, r6) := by
      unfold openS
      rw [HF.out, if_neg (by simp), HLD.out, if_neg (by simp), Int.toNat_natCast, if_neg NE4.out, if_neg HBG.out, HP6.out, if_pos (by simpa using h0r)]
    have E2 := hid e2
    clear e2 h0r x0 x1 x2 x3
    go_wp2_with fail
    go_ret2
    rw [E2.out]
    exact ⟨CH6.out, wv6, _, H6.out, FN.out, rfl⟩
  subst h0r
  have e2 : openS s (z : Int) = (s6, some ⟨s6, z, nextR r, (readS s z r).next, ((readS s z r).out.headD []).headD [], ((readS s z r).out.drop 1).flatten, false⟩, 0) := by
    unfold openS
    rw [HF.out, if_neg (by simp), HLD.out, if_neg (by simp), Int.toNat_natCast, if_neg NE4.out, if_neg HBG.out, HP6.out, if_neg (by simp)]
  have E2 := hid e2
  have hc36 : Chg [y, g, dn] w3 w6 := (C34.out.mono fun x hx => .inl (by rw [List.mem_singleton] at hx; subst hx; simp)).trans (C6.out.mono fun x hx => .inl (List.mem_cons_of_mem _ hx))
  have hS36 : ∀ x ∈ [y, g, dn], x < w2.heap.size := fun x hx => by
    have h1 := GD.out
    have h2 := B2.out.size
    simp only [List.mem_cons, List.not_mem_nil, or_false] at hx
    rcases hx with rfl | rfl | rfl
    · exact YN.out
    · omega
    · omega
  have TX6 := hid (show ∀ x ∈ L, Texts w2 w6 x.1 (rv x) from fun x hx => (TXL.out x hx).chg hc36 fun k hk hT => by have := hS36 k hk; have := ((TXL.out x hx).lt k hT).1; omega)
  have ROW6 := hid (ROW.out.chg hc36 fun k hk hm => by have := hS36 k hm; have := (ROW.out.ownBlock k hk).1; omega)
  have K6 := hid (K4.out.keep C6.out (fun hm => by have h1 := GD.out; have h2 := HY.out; simp only [List.mem_cons, List.not_mem_nil, or_false] at hm; omega))
  have HB6 := hid (show w2.heap.size ≤ w6.heap.size from Nat.le_trans B23.out.size hc36.size)
  clear e2 hc36 hS36 x0 x1 x2 x3
  have x0 := K6.out.get 0 rfl
  have x1 := K6.out.get 1 rfl
  have x2 := K6.out.get 2 rfl
  have x3 := K6.out.get 3 rfl
  have hfirst := readS_first (s := s) (size := z) (r := r) (fun e => NE4.out (by rw [e]; rfl))
  obtain ⟨⟨ts0, a0, n0, c0⟩, L', rfl⟩ : ∃ b L', L = b :: L' := by
    cases L with
    | nil => have := ON.out; simp at this; omega
    | cons b L' => exact ⟨b, L', rfl⟩
  rw [← LO.out] at hfirst
  have hfirst : (ts0.map TS.p).length = 1 := hfirst
  obtain ⟨t0, rfl⟩ : ∃ t, ts0 = [t] := by
    match ts0, hfirst with
    | [t], _ => exact ⟨t, rfl⟩
  have T0 := hid (TX6.out ([t0], a0, n0, c0) (List.mem_cons_self ..))
  obtain ⟨oa', on', oc', e1, hon6, hoc6, hcs6⟩ := ROW6.out.cs
  cases e1
  obtain ⟨b8, o8, rfl, hcell8⟩ := cs_row rowV_length hcs6 (k := 0) (by simp) (by decide)
  have d1 : w6.cell? ⟨b8, o8, none⟩ = some (.slice a0 n0 c0) := hcell8 0 _ rfl
  obtain ⟨a0', n0', c0', e1, hn0, hc0, hcs0⟩ := T0.out.rb.cs
  unfold rv at e1
  dsimp only at e1
  cases e1
  obtain ⟨b9, o9, rfl, hcell9⟩ := cs_row tsV_length hcs0 (k := 0) (by simp) (by decide)
  have d2 : w6.cell? ⟨b9, o9, none⟩ = some (.slice t0.a t0.p.length t0.c) := hcell9 0 _ rfl
  obtain rfl : n0 = 1 := by rw [← hn0]; rfl
  have HON := hid hon6
  have HCS6 := hid hcs6
  have HSN := hid (show ((readS s z r).out.headD []).headD [] = t0.p from by rw [← LO.out]; rfl)
  have HRCS := hid (show ((readS s z r).out.drop 1).flatten = (L'.map (fun x => x.1.map TS.p)).flatten from by rw [← LO.out]; rfl)
  have HFW := hid (show (L'.map (fun x => x.1.map TS.p)).flatten.length ≤ 500000 from by
    have h := readS_few s z r
    rw [← LO.out] at h
    simp only [List.map_cons, List.flatten_cons, List.length_append] at h
    omega)
  have hoc' : (on : Int) ≤ (oc : Int) := by omega
  have hon' : (1 : Int) ≤ (on : Int) := by omega
  clear hcell8 hcell9 hfirst hon6 hcs6 hn0 hcs0 hoc6 hc0 hnok
  go_upto_region 17 with fail
  go_region
  have b7 := below_alloc w6 (.cells #[.pointer (some ⟨g, 0, none⟩), .int .i64 (z : Int), .int .u32 ((r.turn : Int) + 1), .int .u32 ((r.epoch : Int) + 1), .int .u32 (r.gen : Int), .int .u8 (r.area : Int), .int .i64 ((readS s z r).next : Int), .slice t0.a t0.p.length t0.c, .slice none 0 0, .bool false] 148)
  have q7 : Blk (w6.alloc (.cells #[.pointer (some ⟨g, 0, none⟩), .int .i64 (z : Int), .int .u32 ((r.turn : Int) + 1), .int .u32 ((r.epoch : Int) + 1), .int .u32 (r.gen : Int), .int .u8 (r.area : Int), .int .i64 ((readS s z r).next : Int), .slice t0.a t0.p.length t0.c, .slice none 0 0, .bool false] 148)) w6.heap.size (scrV g ⟨s6, z, nextR r, (readS s z r).next, t0.p, [], false⟩ (.slice t0.a t0.p.length t0.c) (.slice none 0 0)) 148 := blk_alloc w6 _ _
  have d7 := below_drew (w6.alloc (.cells #[.pointer (some ⟨g, 0, none⟩), .int .i64 (z : Int), .int .u32 ((r.turn : Int) + 1), .int .u32 ((r.epoch : Int) + 1), .int .u32 (r.gen : Int), .int .u8 (r.area : Int), .int .i64 ((readS s z r).next : Int), .slice t0.a t0.p.length t0.c, .slice none 0 0, .bool false] 148))
  have q7 := q7.below d7
  have b7 := b7.trans (d7.mono b7.size)
  obtain ⟨q, hq⟩ : ∃ q, w6.heap.size = q := ⟨_, rfl⟩
  have HQ := hid hq
  rw [hq] at q7 ⊢
  have B7 := hid b7
  have Q7 := hid q7
  clear b7 q7 d7 hq x0 x1 x2 x3 d1 d2
  generalize ((w6.alloc (.cells #[.pointer (some ⟨g, 0, none⟩), .int .i64 (z : Int), .int .u32 ((r.turn : Int) + 1), .int .u32 ((r.epoch : Int) + 1), .int .u32 (r.gen : Int), .int .u8 (r.area : Int), .int .i64 ((readS s z r).next : Int), .slice t0.a t0.p.length t0.c, .slice none 0 0, .bool false] 148)).drew) = w7 at B7 Q7 ⊢
  obtain ⟨M, hM⟩ : ∃ M, on - 1 = M := ⟨_, rfl⟩
  have HML := hid (show L'.length = M from by have := HON.out; simp at this; omega)
  have hMb : (M : Int) ≤ 9223372036854775807 := by have := OCS.out.max; unfold maxLen at this; omega
  have HM1 := hid hM
  go_upto_region 19 with (refine wpList_ok (o := ⟨some 73, _, _, _, _, _⟩) rfl ?_; refine opOk_cutL (.tmp 72) (.const (.int .i64 1)) rfl rfl rfl hon1 (by omega) hM ?_; intro a' ha'; have HA := hid ha'; clear ha')
  have R0 := hid (show RoRel w6 g q ⟨s6, z, nextR r, (readS s z r).next, t0.p, [], false⟩ (.slice t0.a t0.p.length t0.c) L' (.int .i64 0) w7 from ⟨0, [], .slice none 0 0, rfl, Nat.zero_le _, rfl, RO.nil _ _ _ _ _, by simp, Q7.out, B7.out, by simp [Value.ownBlock]⟩)
  clear hM
  go_wp2_with fail
  go_loopw [14, 75] (fun _ iv wr => RoRel w6 g q ⟨s6, z, nextR r, (readS s z r).next, t0.p, [], false⟩ (.slice t0.a t0.p.length t0.c) L' iv wr) (fun _ iv _ => M - (intOf iv).toNat)
  case atStart => exact R0.out
  case round =>
    clear R0
    obtain ⟨j, acc, rv', rfl, hj, hacc, hrow, htx, hown, hbel, hnq⟩ := hrel
    have HACC := hid hacc
    have RWA := hid hrow
    have TXA := hid htx
    have OWN := hid hown
    have BEL := hid hbel
    have HNQ := hid hnq
    obtain ⟨va, vn, vc, rfl, _, _, _⟩ := hrow.cs
    rw [HML.out] at hj
    have HAL := hid (show acc.length ≤ 500000 from by
      have h := congrArg List.length hacc
      rw [List.length_map] at h
      have := flatten_take_le (L'.map (fun x => x.1.map TS.p)) j
      have := HFW.out
      omega)
    clear hacc hrow htx hown hbel hnq
    by_cases hlt : j < M
    · have hlt' : (j : Int) < (M : Int) := by omega
      obtain rfl : a' = some ⟨b8, o8 + 1, none⟩ := HA.out (by have := HM1.out; omega)
      have hjl : j < L'.length := by rw [HML.out]; exact hlt
      obtain ⟨b', off', e, hcell⟩ := cs_row rowV_length HCS6.out (k := j + 1) (by simp; omega) (by decide)
      cases e
      have hcl := hcell 0 _ rfl
      rw [show o8 + (j + 1) * 1 + 0 = o8 + 1 + j from by omega] at hcl
      rw [List.getElem_cons_succ] at hcl
      have hmem : L'[j] ∈ L' := List.getElem_mem hjl
      have hta := List.take_succ_eq_append_getElem (l := L'.map (fun x => x.1.map TS.p)) (i := j) (by rw [List.length_map]; exact hjl)
      rw [List.getElem_map] at hta
      obtain ⟨⟨tj, aj, nj, cj⟩, hx⟩ : ∃ x, L'[j] = x := ⟨_, rfl⟩
      rw [hx] at hcl hmem hta
      have HTA := hid hta
      have TJ := hid (show Texts w2 w6 tj (.slice aj nj cj) from TX6.out _ (List.mem_cons_of_mem _ hmem))
      have d0 : wr.cell? ⟨b8, o8 + 1 + j, none⟩ = some (.slice aj nj cj) := (BEL.out.cell (wcell_lt hcl)).trans hcl
      obtain ⟨aj', nj', cj', e2, hnj, hcj, hcsj⟩ := TJ.out.rb.cs
      cases e2
      have NJ := hid hnj
      have CJ := hid hcj
      have CSJ := hid (hcsj.below BEL.out)
      have q8 := OWN.out.get 8 rfl
      have hfj : tj.length ≤ 500000 := by
        have h2 := flatten_take_le (L'.map (fun x => x.1.map TS.p)) (j + 1)
        rw [hta, List.flatten_append, List.length_append, List.flatten_cons, List.flatten_nil, List.append_nil, List.length_map] at h2
        have h3 := HFW.out
        have h4 : ((L'.map (fun x => x.1.map TS.p)).take j).flatten.length + tj.length ≤ (L'.map (fun x => x.1.map TS.p)).flatten.length := h2
        omega
      have HFJ := hid hfj
      clear hcell hcl hmem hta hx hnj hcj hcsj hjl hfj
      go_wp2_with (at_builtin; go_must (refine wpList_append_ro tsV_length tsV_one (by decide) (.tmp 83) (.tmp 84) _ rfl rfl w6.heap.size 33 _ 24 info_slb rfl under_slbs _ acc RWA.out rfl (l' := tj) NJ.out CSJ.out CJ.out rfl (by have := HAL.out; have := HFJ.out; omega) BEL.out.size ?_; intro v10 w10 ho10 hb10 hg10 hv10; obtain ⟨a10, n10, c10, rfl, _, _, _⟩ := ho10.cs; have O10 := hid ho10; have G10 := hid hg10; have V10 := hid hv10; have K10 := hid (OWN.out.keep (chg_grown hg10) (fun hm => HNQ.out (by simpa using hm))); have y8 := K10.out.get 8 rfl; have f8 := K10.out.free 8; clear ho10 hb10 hg10 hv10))
      have hrn : (Value.slice a10 n10 c10).ownBlock ≠ some q := fun e => by
        rcases V10.out with h | h
        · exact HNQ.out (h ▸ e)
        · rw [h] at e; simp only [Option.some.injEq] at e; have := OWN.out.lt; omega
      have hc8 := chg_setCell w10 q 8 (.slice a10 n10 c10)
      have hbw : Below w6.heap.size w6 (w10.setCell ⟨q, 8, none⟩ (.slice a10 n10 c10)) := (BEL.out.trans ((chg_grown G10.out).below BEL.out.size fun k hk => (RWA.out.ownBlock k (by simpa using hk)).1)).trans (hc8.below (Nat.le_trans BEL.out.size (chg_grown G10.out).size) fun k hk => by rw [List.mem_singleton] at hk; subst hk; have := HQ.out; omega)
      have R : RoRel w6 g q ⟨s6, z, nextR r, (readS s z r).next, t0.p, [], false⟩ (.slice t0.a t0.p.length t0.c) L' (.int .i64 ((j : Int) + 1)) (w10.setCell ⟨q, 8, none⟩ (.slice a10 n10 c10)) := ⟨j + 1, acc ++ tj, .slice a10 n10 c10, rfl, by rw [HML.out]; exact hlt, by
          rw [List.map_append, HACC.out, HTA.out, List.flatten_append]
          simp, O10.out.chg hc8 (fun k hk hm => by rw [List.mem_singleton] at hm; subst hm; exact hrn hk), fun t ht => by
          rcases List.mem_append.1 ht with ht | ht
          · exact TXA.out t ht
          · exact (TJ.out.tx t ht).1, K10.out.set 8 (.slice a10 n10 c10), hbw, hrn⟩
      have HR2 := hid R
      clear R
      refine ⟨?_, ?_⟩
      rotate_left
      · show M - (intOf (.int .i64 ((j : Int) + 1))).toNat < M - (intOf (.int .i64 (j : Int))).toNat
        simp only [intOf]
        omega
      first | exact HR2.out | ((repeat apply Exists.intro); refine ⟨HR2.out, ?_⟩; and_intros <;> rfl)
    · have hlt' : ¬ ((j : Int) < (M : Int)) := by omega
      have hjm : j = M := by omega
      have hrec : acc.map TS.p = ((readS s z r).out.drop 1).flatten := by
        rw [HACC.out, HRCS.out, List.take_of_length_le (by rw [List.length_map, HML.out]; omega)]
      have HREC := hid hrec
      have FIN := hid (show ROpenTo w F B g dn dc (openS s (z : Int)) (.returned (.tuple #[.pointer (some ⟨q, 0, none⟩), .int .i64 0])) wr from by
        rw [E2.out]
        refine ⟨CH6.out.trans (Chg.of_below _ BEL.out), wv6, _, H6.out.below BEL.out, FN.out, q, _, _, acc, rfl, ⟨OWN.out, ⟨t0.a, t0.c, ?_, ?_, fun _ _ => trivial⟩, RWA.out.base' CH6.out.size, fun t ht => (TXA.out t ht).below BEL.out, HREC.out, ?_⟩⟩
        · show _ = Value.slice t0.a (((readS s z r).out.headD []).headD []).length t0.c
          rw [HSN.out]
        · show BS wr t0.a t0.c (((readS s z r).out.headD []).headD [])
          rw [HSN.out]
          exact (T0.out.tx t0 (List.mem_singleton_self _)).1.below BEL.out
        · show ((readS s z r).out.drop 1).flatten.length ≤ _
          rw [HRCS.out]
          have := HFW.out
          omega)
      clear hjm hrec
      go_wp2_with fail
      go_ret2
      exact FIN.out
end Go.Proofs.YtoapibbbooongaaDoor
