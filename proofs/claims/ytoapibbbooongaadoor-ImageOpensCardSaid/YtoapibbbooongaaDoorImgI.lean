/- The walks of layer 8: a job's image is dropped. -/
import Derived.Test.YtoapibbbooongaaDoorImgH
namespace Go.Proofs.YtoapibbbooongaaDoor
open Go.RowKit Go.Quad _root_.Quad _root_.Quad.Slab

theorem dropI_off {c : Im} {j : Nat} (h : (c.down || c.sl.off) = true) : dropI c j = ({ c with down := true }, 13) := by unfold dropI; rw [if_pos h]
theorem dropI_none {c : Im} {j : Nat} (h : ¬ (c.down || c.sl.off) = true) (hf : findI c.L j = none) : dropI c j = (c, 6) := by unfold dropI; rw [if_neg h, hf]
theorem dropI_err {c : Im} {j : Nat} {x : Img} {s' : Sl} {r : Nat} (h : ¬ (c.down || c.sl.off) = true) (hf : findI c.L j = some x) (hd : dropS c x = (s', r)) (hr : r ≠ 0) : dropI c j = ({ c with sl := s', down := true }, r) := by
  unfold dropI
  rw [if_neg h, hf]
  dsimp only
  rw [hd, if_pos hr]
theorem dropI_done {c : Im} {j : Nat} {x : Img} {s' : Sl} (h : ¬ (c.down || c.sl.off) = true) (hf : findI c.L j = some x) (hd : dropS c x = (s', 0)) : dropI c j = ({ c with sl := s', used := freeI c.used x.at', L := c.L.filter fun y => y.job != j }, 0) := by
  unfold dropI
  rw [if_neg h, hf]
  dsimp only
  rw [hd, if_neg (by simp)]
/-- an image is struck from the map -/
theorem IsSto.del {w w' : World} {B g c mb fg fd : Nat} {Q : Nat → Prop} {E : List Ent} {I : Im} {j : Nat} (h : IsSto w B g c mb fg fd Q E I) (hc : Chg [mb] w w') (hown : ∃ D, w'.ownsMap Tryd.prog 31 entR mb (Maps.size D) D ∧ MapOf Ent.key Ent.dat D (E.filter fun e => e.key != j)) :
    IsSto w' B g c mb fg fd Q (E.filter fun e => e.key != j) { I with L := I.L.filter fun y => y.job != j } := by
  have nd := h.apart
  simp only [List.nodup_cons, List.mem_cons, List.not_mem_nil, or_false, not_or] at nd
  have nQ : ∀ k ∈ [mb], ¬ Q k := fun k hk hq => (h.inQ k hq).2.2 (by simp only [List.mem_singleton] at hk; subst hk; simp)
  refine ⟨h.own.keep hc (by simp only [List.mem_singleton]; exact nd.1.1), hown, h.free.keep hc (by simp only [List.mem_singleton]; exact fun e => nd.2.1.1 e.symm) (by simp only [List.mem_singleton]; exact fun e => nd.2.1.2 e.symm), fun e he => (h.lists e (List.mem_filter.1 he).1).keep hc nQ (fun _ h => h), ?_, h.sorted.filter _, fun e he => h.ok e (List.mem_filter.1 he).1, fun k hk => ⟨(h.inQ k hk).1, Nat.lt_of_lt_of_le (h.inQ k hk).2.1 hc.size, (h.inQ k hk).2.2⟩, fun k hk => ⟨(h.lt k hk).1, Nat.lt_of_lt_of_le (h.lt k hk).2 hc.size⟩, h.apart, h.epoch, h.small⟩
  show (E.filter fun e => e.key != j).map Ent.x = I.L.filter fun y => y.job != j
  rw [← h.L, List.filter_map]
  rfl
theorem slab_next {w w5 w6 : World} {g d : Nat} {wv wv5 wv6 : Value} (h : Chg (slS g d wv) w w5) (h5 : ∀ k, wv5.ownBlock = some k → k ∈ slS g d wv ∨ w.heap.size ≤ k) (hc : Chg (slS g d wv5) w5 w6) (h6 : ∀ k, wv6.ownBlock = some k → k ∈ slS g d wv5 ∨ w5.heap.size ≤ k) :
    Chg (slS g d wv) w w6 ∧ ∀ k, wv6.ownBlock = some k → k ∈ slS g d wv ∨ w.heap.size ≤ k := by
  have hin : ∀ k ∈ slS g d wv5, k ∈ slS g d wv ∨ w.heap.size ≤ k := by
    intro k hk
    rcases slS_mem hk with rfl | rfl | hk
    · exact .inl (by simp [slS])
    · exact .inl (by simp [slS])
    · exact h5 k hk
  refine ⟨chg_next h hc hin, fun k hk => ?_⟩
  rcases h6 k hk with h1 | h1
  · exact hin k h1
  · exact .inr (Nat.le_trans h.size h1)
set_option maxRecDepth 100000 in
set_option maxHeartbeats 4000000 in
theorem idrop_calls (w : World) (B g d : Nat) (wv : Value) (c mb fg fd : Nat) (Q : Nat → Prop) (E : List Ent) (I : Im) (job : Nat) (hS : StAt w B g d wv c mb fg fd Q E I) (hj : job < 4294967296) (hs : I.sl.steps + 100 < 1000000) (hw : I.sl.way.length + 100 < 1000000) :
    Calls Tryd.prog 25 #[.pointer (some ⟨c, 0, none⟩), .int .u32 (job : Int)] w (StTo w B g d wv c mb fg fd Q (dropI I job)) := by
  have HS := hid hS
  have HLT := hid hS.lt
  have HLQ := hid (fun k (hk : Q k) => (hS.sto.inQ k hk).2.1)
  obtain ⟨R0, hR0⟩ : ∃ R0, dropI I job = R0 := ⟨_, rfl⟩
  rw [hR0]
  have HR0 := hid hR0
  have hrd := hid (ready_calls w B g d wv c mb fg fd Q E I hS.slab hS.sto)
  have hcs : ∀ k ∈ [c], k ∈ stS g d wv c mb fg fd := fun k hk => by rw [List.mem_singleton] at hk; subst hk; simp [stS]
  have HCS := hid hcs
  clear hS hR0 hcs
  by_cases hdn : (I.down || I.sl.off) = true
  case pos =>
    have hri : readyI I = ({ I with down := true }, 13) := by unfold readyI; rw [if_pos hdn]
    have HPI := hid (dropI_off (j := job) hdn)
    unfold ReadyTo at hrd
    rw [hri] at hrd
    clear hri hdn
    go_enter Tryd.func25, Tryd.ntmps25
    go_wp2_with (go_at_call 50; refine hrd.out.mono ?_; rintro e w2 ⟨rfl, hs2, hc2⟩; have S2 := hid hs2; have C2 := hid hc2; clear hs2 hc2; dsimp only)
    go_ret
    have nc : c ∉ slS g d wv := HS.out.apart c (by simp)
    exact StTo.same (I := { I with down := true }) (n := 13) ⟨HS.out.slab.chg C2.out (fun k hk hm => by rw [List.mem_singleton] at hk; subst hk; exact nc hm), S2.out, HS.out.apart, HS.out.q⟩ (C2.out.mono fun k hk => .inl (HCS.out k hk)) (HR0.out.symm.trans HPI.out)
  have hri : readyI I = (I, 0) := by unfold readyI; rw [if_neg hdn]
  unfold ReadyTo at hrd
  rw [hri] at hrd
  have HDN := hid hdn
  have hfd := HS.out.sto.find job
  obtain ⟨r, hr⟩ : ∃ r, E.find? (fun e => e.key == job) = r := ⟨_, rfl⟩
  rw [hr] at hfd
  have HF := hid hr
  have HFD := hid hfd
  clear hri hdn hr hfd
  go_enter Tryd.func25, Tryd.ntmps25
  go_upto_region 4 with (go_at_call 50; refine hrd.out.mono ?_; rintro e w2 ⟨rfl, hs2, hc2⟩; have S2 := hid hs2; have C2 := hid hc2; clear hs2 hc2; dsimp only)
  have ST2 := hid (show StAt w2 B g d wv c mb fg fd Q E I from ⟨HS.out.slab.chg C2.out (fun k hk hm => by rw [List.mem_singleton] at hk; subst hk; exact HS.out.apart _ (by simp) hm), S2.out, HS.out.apart, HS.out.q⟩)
  have CH2 := hid (show Chg (stS g d wv c mb fg fd) w w2 from C2.out.mono fun k hk => .inl (HCS.out k hk))
  obtain ⟨D, hD, hM⟩ := S2.out.map
  have hLk := look_run hD hM (W := w2) rfl hj
  rw [HF.out] at hLk
  have c4 := S2.out.own.get 4 rfl
  clear hD hM hrd C2
  cases r with
  | none =>
    rw [show (lookV none).toArray = #[.int .u32 0, .int .u32 0, .int .i64 0, .slice none 0 0, .slice none 0 0] from rfl] at hLk
    have HPI := hid (dropI_none HDN.out HFD.out)
    go_wp2_with fail
    go_ret
    have b3 := below_alloc w2 (.cells #[.int .u32 0, .int .u32 0, .int .i64 0, .slice none 0 0, .slice none 0 0] 100)
    exact StTo.same (ST2.out.below b3) (CH2.out.trans (Chg.of_below _ b3)) (HR0.out.symm.trans HPI.out)
  | some e8 =>
    rw [show (lookV (some e8)).toArray = #[.int .u32 (e8.x.job : Int), .int .u32 (e8.x.ver : Int), .int .i64 e8.x.credit, .slice (some ⟨e8.bb, e8.bo, none⟩) e8.x.blobs.length e8.bc, .slice (some ⟨e8.ab, e8.ao, none⟩) e8.x.at'.length e8.ac] from rfl] at hLk
    have he8 : e8 ∈ E := List.mem_of_find?_eq_some HF.out
    have HIN := hid (S2.out.ok e8 he8)
    go_upto_region 7 with fail
    have b3 := below_alloc w2 (.cells #[.int .u32 (e8.x.job : Int), .int .u32 (e8.x.ver : Int), .int .i64 e8.x.credit, .slice (some ⟨e8.bb, e8.bo, none⟩) e8.x.blobs.length e8.bc, .slice (some ⟨e8.ab, e8.ao, none⟩) e8.x.at'.length e8.ac] 100)
    have x3 : Blk _ w2.heap.size #[.int .u32 (e8.x.job : Int), .int .u32 (e8.x.ver : Int), .int .i64 e8.x.credit, .slice (some ⟨e8.bb, e8.bo, none⟩) e8.x.blobs.length e8.bc, .slice (some ⟨e8.ab, e8.ao, none⟩) e8.x.at'.length e8.ac].toList 100 := blk_alloc w2 #[.int .u32 (e8.x.job : Int), .int .u32 (e8.x.ver : Int), .int .i64 e8.x.credit, .slice (some ⟨e8.bb, e8.bo, none⟩) e8.x.blobs.length e8.bc, .slice (some ⟨e8.ab, e8.ao, none⟩) e8.x.at'.length e8.ac].toList 100
    obtain ⟨q, hq⟩ : ∃ q, w2.heap.size = q := ⟨_, rfl⟩
    rw [hq] at x3 ⊢
    have ST3 := hid (ST2.out.below b3)
    have CH3 := hid (CH2.out.trans (Chg.of_below _ b3))
    have X3 := hid x3
    have HQ := hid (show w.heap.size ≤ q from by rw [← hq]; exact CH2.out.size)
    have HE8 := hid he8
    clear b3 x3 hq hLk c4 S2 ST2 CH2 he8
    generalize (w2.alloc (.cells #[.int .u32 (e8.x.job : Int), .int .u32 (e8.x.ver : Int), .int .i64 e8.x.credit, .slice (some ⟨e8.bb, e8.bo, none⟩) e8.x.blobs.length e8.bc, .slice (some ⟨e8.ab, e8.ao, none⟩) e8.x.at'.length e8.ac] 100)) = w3 at ST3 CH3 X3 ⊢
    have hkl : e8.x.at'.length = e8.x.blobs.length + 1 := HIN.out.at'
    have hb16 := HIN.out.few.2
    have hb1 := HIN.out.few.1
    obtain ⟨lm, hlm⟩ : ∃ lm, e8.x.blobs.length = lm := ⟨_, rfl⟩
    rw [hlm] at hkl hb16 hb1
    have hlt9 : lm < e8.x.at'.length := by omega
    have hl17 : (lm : Int) ≤ 16 := by omega
    obtain ⟨ab', ao', hae, _, hcell⟩ := (ST3.out.sto.lists e8 HE8.out).2.at (a := some ⟨e8.ab, e8.ao, none⟩) (n := e8.x.at'.length) (c := e8.ac) (k := lm) hlt9
    cases hae
    have hpn : e8.x.at'.getD lm 0 < I.used.length := HIN.out.inn (e8.x.at'.getD lm 0) (by rw [getD_in hlt9]; exact List.getElem_mem hlt9)
    obtain ⟨pl, hpl⟩ : ∃ pl, e8.x.at'.getD lm 0 = pl := ⟨_, rfl⟩
    rw [hpl] at hcell hpn
    have HPL := hid hpl
    have hsm := ST3.out.sto.small
    obtain ⟨nl, hnl⟩ : ∃ nl, e8.x.at'.length = nl := ⟨_, rfl⟩
    have HNL := hid hnl
    have HKL := hid hkl
    have HLM := hid hlm
    have c0 := ST3.out.sto.own.get 0 rfl
    have c1 := ST3.out.sto.own.get 1 rfl
    have x4 := X3.out.get 4 rfl
    rw [hnl] at hkl x4
    subst hkl
    have hf4 : (I.from' : Int) ≤ 4096 := by omega
    have hp4 : (pl : Int) ≤ 4096 := by omega
    clear hpl hnl hlm hpn hsm hb16 hlt9
    have hwr : IntKind.i64.wrap (lm : Int) = (lm : Int) := by rw [IntKind.wrap_i64]; omega
    have hlt1 : (lm : Int) < (lm : Int) + 1 := by omega
    have hwp : IntKind.i64.wrap ((I.from' : Int) + (pl : Int)) = ((I.from' + pl : Nat) : Int) := by rw [IntKind.wrap_i64]; omega
    go_still_tail 17, (by kernel_rfl)
    change wpList _ _ _ _ _ w3.drew
    have bd := below_drew w3
    have ST4 := hid (ST3.out.below bd)
    have CH4 := hid (CH3.out.trans (Chg.of_below _ bd))
    have X4 := hid (X3.out.below bd)
    clear bd c0 c1 x4 hcell
    generalize w3.drew = w4 at ST4 CH4 X4 ⊢
    have hdS : dropS I e8.x = thenS (writeL I.sl ((I.from' + pl : Nat) : Int) []) flushL := by
      unfold dropS
      rw [show e8.x.at'.length - 1 = lm from by have := HNL.out; omega, HPL.out]
    have hW := write_any w4 B g d wv I.sl ((I.from' + pl : Nat) : Int) none 0 [] ST4.out.slab (by omega) ⟨Nat.zero_le _, Nat.zero_le _, fun _ => rfl, .inl rfl⟩ (by omega) (by omega) (.inl rfl)
    obtain ⟨⟨s1, r1⟩, hp1⟩ : ∃ p, writeL I.sl ((I.from' + pl : Nat) : Int) [] = p := ⟨_, rfl⟩
    have hst1 : s1.steps ≤ I.sl.steps + 1 := by
      have : (writeL I.sl ((I.from' + pl : Nat) : Int) []).1.steps ≤ I.sl.steps + 1 := by
        unfold writeL
        split
        · simp
        · simp [stepL]
      rw [hp1] at this
      exact this
    rw [hp1] at hW hdS
    have hW2 := hid (show Calls Tryd.prog 17 #[.pointer (some ⟨g, 0, none⟩), .int .i64 ((I.from' : Int) + (pl : Int)), .slice none 0 0] w4 (SlabTo w4 B g d wv s1 r1) from hW)
    have HDS := hid hdS
    have HST1 := hid hst1
    clear hW hdS hp1 hst1
    go_upto_region 8 with (go_at_call 17; refine hW2.out.mono ?_; rintro e w5 ⟨wv5, rfl, hsl5, hc5, ho5⟩; have S5 := hid (ST4.out.slabbed HLQ.out hsl5 hc5 ho5); have C5 := hid (And.intro (CH4.out.trans (hc5.mono fun k hk => .inl (List.mem_append_left _ hk))) ho5); have D5 := hid hc5; clear hsl5 hc5 ho5; dsimp only)
    by_cases h1 : r1 = 0
    case neg =>
      have h1' : ¬ ((r1 : Int) = 0) := by omega
      have hds2 := hid (show dropS I e8.x = (s1, r1) from by rw [HDS.out]; exact thenS_stop h1)
      have HZ := hid h1
      clear h1
      have HPI := hid (dropI_err HDN.out HFD.out hds2.out HZ.out)
      have f6 := S5.out.sto.own.free 6
      have c6 := S5.out.sto.own.get 6 rfl
      go_wp2_with fail
      go_ret
      have cs := chg_setCell w5 c 6 (.bool true)
      rw [show R0 = _ from HR0.out.symm.trans HPI.out]
      have hcc : ∀ k ∈ [c], k ∈ stS g d wv c mb fg fd := HCS.out
      refine ⟨wv5, Q, E, rfl, ⟨S5.out.slab.chg cs (fun k hk hm => by rw [List.mem_singleton] at hk; subst hk; exact S5.out.apart _ (by simp) hm), S5.out.sto.down true cs (S5.out.sto.own.set 6 (.bool true)), S5.out.apart, S5.out.q⟩, C5.out.1.trans (cs.mono fun k hk => .inl (hcc k hk)), fun k hk => ?_, fun k hk => .inl hk⟩
      rcases C5.out.2 k hk with h | h
      · exact .inl h
      · exact .inr (Nat.le_trans CH4.out.size h)
    subst h1
    have hF := flush_calls w5 B g d wv5 s1 S5.out.slab (by have := HST1.out; omega)
    obtain ⟨⟨s2, r2⟩, hp2⟩ : ∃ p, flushL s1 = p := ⟨_, rfl⟩
    rw [hp2] at hF
    have hF2 := hid (show Calls Tryd.prog 65 #[.pointer (some ⟨g, 0, none⟩)] w5 (SlabTo w5 B g d wv5 s2 r2) from hF)
    have hds2 := hid (show dropS I e8.x = (s2, r2) from by rw [HDS.out, thenS_go rfl]; exact hp2)
    have c0 := S5.out.sto.own.get 0 rfl
    have z45 := hid (Nat.le_trans CH4.out.size D5.out.size)
    clear hF hp2
    go_upto_region 10 with (go_at_call 65; refine hF2.out.mono ?_; rintro e w6 ⟨wv6, rfl, hsl6, hc6, ho6⟩; have S6 := hid (S5.out.slabbed HLQ.out hsl6 hc6 ho6); have D6 := hid (slab_next D5.out C5.out.2 hc6 ho6); clear hsl6 hc6 ho6; dsimp only)
    have C6 := hid (show Chg (stS g d wv c mb fg fd) w w6 ∧ ∀ k, wv6.ownBlock = some k → k ∈ slS g d wv ∨ w4.heap.size ≤ k from ⟨CH4.out.trans (D6.out.1.mono fun k hk => .inl (List.mem_append_left _ hk)), D6.out.2⟩)
    clear c0
    by_cases h2 : r2 = 0
    case neg =>
      have h2' : ¬ ((r2 : Int) = 0) := by omega
      have HZ := hid h2
      clear h2
      have HPI := hid (dropI_err HDN.out HFD.out hds2.out HZ.out)
      have f6 := S6.out.sto.own.free 6
      have c6 := S6.out.sto.own.get 6 rfl
      go_wp2_with fail
      go_ret
      have cs := chg_setCell w6 c 6 (.bool true)
      rw [show R0 = _ from HR0.out.symm.trans HPI.out]
      have hcc : ∀ k ∈ [c], k ∈ stS g d wv c mb fg fd := HCS.out
      refine ⟨wv6, Q, E, rfl, ⟨S6.out.slab.chg cs (fun k hk hm => by rw [List.mem_singleton] at hk; subst hk; exact S6.out.apart _ (by simp) hm), S6.out.sto.down true cs (S6.out.sto.own.set 6 (.bool true)), S6.out.apart, S6.out.q⟩, C6.out.1.trans (cs.mono fun k hk => .inl (hcc k hk)), fun k hk => ?_, fun k hk => .inl hk⟩
      rcases C6.out.2 k hk with h | h
      · exact .inl h
      · exact .inr (Nat.le_trans CH4.out.size h)
    subst h2
    have X6 := hid (X4.out.keep D6.out.1 (fun hm => by have := HLT.out q (List.mem_append_left _ hm); have := HQ.out; omega))
    have HPI := hid (dropI_done HDN.out HFD.out hds2.out)
    have AH := hid (show AL w6 Q (.slice (some ⟨e8.ab, e8.ao, none⟩) e8.x.at'.length e8.ac) e8.x.at' from (S6.out.sto.lists e8 HE8.out).2)
    have R0' := hid (show FrRel w6 B g d wv6 c mb fg fd Q E { I with sl := s2 } e8.x.at' (.int .i64 0) w6 from ⟨0, rfl, Nat.zero_le _, S6.out, Chg.refl _ _⟩)
    have x4 := X6.out.get 4 rfl
    obtain ⟨l, hl⟩ : ∃ l, e8.x.at' = l := ⟨_, rfl⟩
    have HINN := hid HIN.out.inn
    have HNL2 := hid (show l.length = lm + 1 from by rw [← hl]; exact HNL.out)
    rw [hl] at x4 AH R0' HINN HPI
    have hln : (l.length : Int) ≤ 17 := by have := HNL2.out; omega
    clear hl hwr hlt1 hwp
    go_wp2_with fail
    go_loopw [10, 61] (fun _ jv wr => FrRel w6 B g d wv6 c mb fg fd Q E { I with sl := s2 } l jv wr) (fun _ jv _ => l.length - (intOf jv).toNat)
    case atStart => exact R0'.out
    case round =>
      obtain ⟨j, rfl, hj', hst, hcg⟩ := hrel
      have Sj := hid hst
      have Cj := hid hcg
      clear hst hcg x4
      have nQ : ∀ k ∈ [fg, fd], ¬ Q k := fun k hk hq => (S6.out.sto.inQ k hq).2.2 (by simp only [List.mem_cons, List.not_mem_nil, or_false] at hk ⊢; exact .inr (.inr hk))
      have NQ := hid nQ
      clear nQ
      by_cases hlt : j < l.length
      · have hlt' : (j : Int) < (l.length : Int) := by omega
        obtain ⟨ab', ao', hae, _, hcell⟩ := (AH.out.keep Cj.out NQ.out (fun _ h => h)).at hlt
        cases hae
        have hin := HINN.out (l.getD j 0) (by rw [getD_in hlt]; exact List.getElem_mem hlt)
        obtain ⟨pj, hpj⟩ : ∃ pj, l.getD j 0 = pj := ⟨_, rfl⟩
        rw [hpj] at hcell hin
        have c5 := Sj.out.sto.own.get 5 rfl
        have hM := hid (free_calls _ fg fd _ (pj : Int) Sj.out.sto.free)
        have HPJ := hid hpj
        have HIJ := hid hin
        clear hpj hin
        go_wp2_with (go_at_call 54; refine hM.out.mono ?_; rintro e9 w9 ⟨rfl, hp9, hc9⟩; have P9 := hid hp9; have C9' := hid hc9; clear hp9 hc9)
        have R : FrRel w6 B g d wv6 c mb fg fd Q E { I with sl := s2 } l (.int .i64 ((j : Int) + 1)) w9 := by
          have hnl : (freeI I.used (l.take j)).length = I.used.length := by unfold freeI; rw [markI_len]
          have hm2 : freeI I.used (l.take (j + 1)) = (markM (freeI I.used (l.take j)) (pj : Int) false).1 := by
            rw [free_set (by rw [hnl]; exact HIJ.out), List.take_succ_eq_append_getElem hlt, ← getD_in (d := 0) hlt, HPJ.out]
            unfold freeI
            rw [List.foldl_append]
            rfl
          have hno : ∀ k ∈ [fg, fd], k ∉ slS g d wv6 := fun k hk => Sj.out.apart k (by simp only [List.mem_cons, List.not_mem_nil, or_false] at hk ⊢; exact .inr (.inr hk))
          refine ⟨j + 1, rfl, hlt, ⟨Sj.out.slab.chg C9'.out hno, ?_, Sj.out.apart, Sj.out.q⟩, Cj.out.trans C9'.out⟩
          have h9 := Sj.out.sto.marks (m := freeI I.used (l.take (j + 1))) C9'.out (by rw [hm2]; exact P9.out) (by
            show (freeI I.used (l.take (j + 1))).length = (freeI I.used (l.take j)).length
            unfold freeI; rw [markI_len, markI_len])
          exact h9
        refine ⟨?_, by simp [intOf]; omega⟩
        first | exact R | ((repeat apply Exists.intro); refine ⟨R, ?_⟩; and_intros <;> rfl)
      · have hlt' : ¬ ((j : Int) < (l.length : Int)) := by omega
        obtain rfl : j = l.length := by omega
        have c4 := Sj.out.sto.own.get 4 rfl
        obtain ⟨D, hD, hM⟩ := Sj.out.sto.map
        have HD := hid hD
        have HM := hid hM
        clear hD hM hlt hj'
        go_wp2_with (at_delete; go_must (refine wpList_delete_own _ rfl _ _ 90 31 rfl 100 keyed32 Tryd.underlying90 entR mb _ D rfl HD.out (.int .u32 (job : Int)) (idK job) rfl (keyOf32 hj) ?_; intro wz hown hturn; have HO := hid hown; have HT := hid hturn; clear hown hturn))
        go_ret
        rw [show R0 = _ from HR0.out.symm.trans HPI.out]
        have cz := chg_grown HT.out.grown
        have hst := Sj.out.sto.del cz ⟨_, owns_tight HO.out, HM.out.del Sj.out.sto.sorted job⟩
        rw [List.take_length] at hst
        refine ⟨wv6, Q, _, rfl, ⟨Sj.out.slab.chg cz (fun k hk hm => Sj.out.apart k (by simp only [Option.mem_toList, Option.some.injEq] at hk; subst hk; simp) hm), hst, Sj.out.apart, Sj.out.q⟩, ?_, fun k hk => ?_, fun k hk => .inl hk⟩
        · exact (C6.out.1.trans (Cj.out.mono fun k hk => .inl (List.mem_append_right _ (by simp only [List.mem_cons, List.not_mem_nil, or_false] at hk ⊢; exact .inr (.inr hk))))).trans (cz.mono fun k hk => .inl (List.mem_append_right _ (by simp only [Option.mem_toList, Option.some.injEq] at hk; subst hk; simp)))
        · rcases C6.out.2 k hk with h | h
          · exact .inl h
          · exact .inr (Nat.le_trans CH4.out.size h)
end Go.Proofs.YtoapibbbooongaaDoor
