/- The walks of layer 7: a new scroll, and an opening. -/
import Derived.Test.YtoapibbbooongaaDoorScrG
import Derived.Test.YtoapibbbooongaaDoorScrF
namespace Go.Proofs.YtoapibbbooongaaDoor
open Go.RowKit Go.Quad _root_.Quad _root_.Quad.Slab _root_.Quad.Ink

theorem loadB_ok {s : Sl} {r : RootD} (h : loadB s = (r, 0)) : r.Ok ∧ r.area ≤ 1 := by
  have key : ∀ (i : Nat) (best : Option RootD), (∀ r, best = some r → r.Ok ∧ r.area ≤ 1) → ∀ r, stepR s i best = some r → r.Ok ∧ r.area ≤ 1 := by
    intro i best hb r hr
    unfold stepR at hr
    by_cases hi : isRoot (getB s (i : Int)) i = true
    · rw [if_pos hi] at hr
      have h1 : rootOf (getB s (i : Int)).1 = r ∨ best = some r := by
        cases best with
        | none => dsimp only at hr; cases hr; exact .inl rfl
        | some r0 =>
          dsimp only at hr
          split at hr
          · cases hr; exact .inl rfl
          · exact .inr hr
      rcases h1 with h1 | h1
      · subst h1
        have ho := getB_ok s (i : Int)
        have ha : ((getB s (i : Int)).1.data.getD 0 0).toNat ≤ 1 := by
          unfold isRoot at hi
          simp only [Bool.and_eq_true, decide_eq_true_eq] at hi
          exact hi.1.2
        exact ⟨⟨ho.a, ho.epoch, ho.b, by show (_ : UInt8).toNat < 256; omega⟩, ha⟩
      · exact hb r h1
    · rw [if_neg hi] at hr
      exact hb r hr
  unfold loadB at h
  split at h
  · rename_i h0; exact absurd (congrArg Prod.snd h) h0
  · split at h
    · rename_i h0; exact absurd (congrArg Prod.snd h) h0
    · split at h
      · cases h
      · rename_i r' hr
        cases h
        exact key 1 _ (key 0 none (by simp)) r hr
theorem loadB_on {s : Sl} {r : RootD} (h : loadB s = (r, 0)) : s.off = false := by
  cases ho : s.off with
  | false => rfl
  | true =>
    have h0 : (readL s 0).2 ≠ 0 := by
      unfold readL hasL
      rw [ho]
      split
      · simp
      · split <;> simp
    unfold loadB at h
    rw [if_pos h0] at h
    exact absurd (congrArg Prod.snd h) h0
theorem loadB_code (s : Sl) : (loadB s).2 ≤ 100 := by
  have hr : ∀ i, (readL s i).2 ≤ 100 := fun i => by
    unfold readL hasL
    split
    · simp
    · split
      · simp
      · split <;> simp
  unfold loadB
  split
  · exact hr _
  · split
    · exact hr _
    · split <;> simp
theorem SlabTo.then {w w1 w2 : World} {B g d : Nat} {wv wv1 : Value} {s2 : Sl} {r : Nat} {e : Ending} (hc : Chg (slS g d wv) w w1) (hin : ∀ k ∈ slS g d wv1, k ∈ slS g d wv ∨ w.heap.size ≤ k) (h : SlabTo w1 B g d wv1 s2 r e w2) : SlabTo w B g d wv s2 r e w2 := by
  obtain ⟨wv2, e1, h1, h2, h3⟩ := h
  refine ⟨wv2, e1, h1, chg_next hc h2 hin, fun k hk => ?_⟩
  rcases h3 k hk with h | h
  · exact hin k h
  · exact .inr (Nat.le_trans hc.size h)
theorem fitsS_ok {s : Sl} {size : Int} (h : fitsS s size = 0) : 1 ≤ size ∧ size ≤ 4096 ∧ 2 + 2 * size ≤ (s.done.length : Int) := by
  unfold fitsS at h
  split at h
  · cases h
  · omega
theorem fitsS_code (s : Sl) (size : Int) : fitsS s size ≤ 100 := by unfold fitsS; split <;> simp
set_option maxRecDepth 100000 in
set_option maxHeartbeats 8000000 in
theorem sformat_calls (w : World) (B g d : Nat) (wv : Value) (s : Sl) (size : Int) (a : Option Addr) (n cc : Nat) (p : Bytes) (h : IsSlab w B g d wv s) (hz : -9223372036854775808 ≤ size ∧ size ≤ 9223372036854775807) (hl : s.done.length ≤ 100000) (hp : BS w a cc p) (hn : p.length = n) (hQ : ∀ x, a = some x → x.block < w.heap.size) (hn5 : n ≤ 50000) (hq : Laid w) (hB0 : 0 < B) (hst : s.steps + 6000 < 1000000) (hw : s.way.length + 6000 < 1000000) :
    Calls Tryd.prog 38 #[.pointer (some ⟨g, 0, none⟩), .int .i64 size, .slice a n cc] w (SlabTo w B g d wv (formatS s size p).1 (formatS s size p).2) := by
  have H := hid h
  have HQ := hid hq
  have HST := hid hst
  have HW := hid hw
  have HP := hid hp
  have HNN := hid hn
  have LQ := hid hQ
  have hjl : (joinL [p]).length ≤ 60000 := by
    rw [joinL_cons]
    have := numL_len10 (n := p.length) (by omega)
    unfold textL
    rw [List.length_append, List.length_append]
    show _ + _ + 0 ≤ _
    omega
  have HJL := hid hjl
  have hpn : (partsL [p] : Int) ≤ 4000 := by unfold partsL npart; omega
  have CF := hid (fits_calls w B g d wv s size h hz hl)
  have CP := hid (lparts_calls (w.alloc (.cells #[.slice a n cc] 33)) _ _ 1 1 [p] (bl_one hp hn (Q := fun k => k < w.heap.size) hQ) (fun k hk => by
    rcases hk with hk | hk
    · simp; omega
    · simp; omega) (fun t ht => by rw [List.mem_singleton] at ht; subst ht; omega) (by omega) (by simp))
  obtain ⟨F, hF⟩ : ∃ F, fitsS s size = F := ⟨_, rfl⟩
  have HF := hid hF
  rw [hF] at CF
  obtain ⟨N, hN⟩ : ∃ N, partsL [p] = N := ⟨_, rfl⟩
  have HN := hid hN
  rw [hN] at CP hpn
  have HN1 := hid (show 1 ≤ N from by rw [← hN]; exact npart_pos _)
  clear h hq hst hw hF hN hp hn hQ hjl
  go_enter Tryd.func38, Tryd.ntmps38
  go_upto_region 2 with (go_at_call 67; go_must (refine CF.out.mono ?_; rintro e w1 ⟨rfl, rfl⟩; dsimp only))
  by_cases hf0 : F = 0
  case neg =>
    have hf' : ((F : Int) != 0) = true := by rw [bne_iff_ne]; omega
    have e2 : formatS s size p = (s, F) := by unfold formatS; rw [HF.out, if_pos hf0]
    have E2 := hid e2
    clear e2 hf0
    go_wp2_with fail
    go_ret
    rw [E2.out]
    exact ⟨wv, rfl, H.out, Chg.refl _ _, fun k hk => .inl (by simp [slS, hk])⟩
  subst hf0
  have hfo := fitsS_ok HF.out
  by_cases hs : size < (N : Int)
  · have e2 : formatS s size p = (s, 8) := by unfold formatS; rw [HF.out, if_neg (by simp), HN.out, if_pos hs]
    have E2 := hid e2
    clear e2
    go_wp2_with (go_at_call 41; go_must (refine CP.out.mono ?_; rintro e w1 ⟨rfl, hb⟩; have B1 := hid ((below_alloc w (.cells #[.slice a n cc] 33)).trans (hb.mono (below_alloc w _).size)); clear hb; dsimp only))
    go_ret
    rw [E2.out]
    exact ⟨wv, rfl, H.out.below B1.out, Chg.of_below _ B1.out, fun k hk => .inl (by simp [slS, hk])⟩
  obtain ⟨z, rfl⟩ : ∃ z : Nat, size = (z : Int) := ⟨size.toNat, by omega⟩
  have hz4 : (z : Int) ≤ 4096 := hfo.2.1
  have HFO := hid hfo
  have HS := hid hs
  clear hfo
  go_upto_region 7 with (go_at_call 41; go_must (refine CP.out.mono ?_; rintro e w1 ⟨rfl, hb⟩; have B1 := hid ((below_alloc w (.cells #[.slice a n cc] 33)).trans (hb.mono (below_alloc w _).size)); clear hb; dsimp only))
  have b2 := below_alloc w1 (.cells #[.int .u32 1, .int .u32 0, .int .u32 1, .int .u8 0] 134)
  have k2 := blk_alloc w1 [.int .u32 1, .int .u32 0, .int .u32 1, .int .u8 0] 134
  obtain ⟨y, hy⟩ : ∃ y, w1.heap.size = y := ⟨_, rfl⟩
  have B2 := hid (B1.out.trans (b2.mono B1.out.size))
  have HY := hid (show w.heap.size ≤ y from by rw [← hy]; exact B1.out.size)
  rw [hy] at k2 ⊢
  have K2 := hid k2
  clear b2 k2 hy
  generalize (w1.alloc (.cells #[.int .u32 1, .int .u32 0, .int .u32 1, .int .u8 0] 134)) = w2 at B2 K2 ⊢
  have b3 := below_alloc w2 (.cells #[.slice a n cc] 33)
  have B3 := hid (B2.out.trans (b3.mono B2.out.size))
  have K3 := hid (K2.out.below b3)
  have H3 := hid (H.out.below B3.out)
  have L3 := hid (HQ.out.below B3.out HQ.out.1)
  have hrok : (RootD.mk 1 0 1 0).Ok := ⟨by show 1 < 4294967296; omega, by show 0 < 4294967296; omega, by show 1 < 4294967296; omega, by show 0 < 256; omega⟩
  have CW := hid (show Calls Tryd.prog 77 #[.pointer (some ⟨g, 0, none⟩), .int .i64 (z : Int), .agg #[.int .u32 1, .int .u32 0, .int .u32 1, .int .u8 0], .int .i64 0, .slice (some ⟨w2.heap.size, 0, none⟩) 1 1] (w2.alloc (.cells #[.slice a n cc] 33)) (SlabTo (w2.alloc (.cells #[.slice a n cc] 33)) B g d wv (putS s z ⟨1, 0, 1, 0⟩ 0 (joinL [p])).1 (putS s z ⟨1, 0, 1, 0⟩ 0 (joinL [p])).2) from
    swrite_calls (w2.alloc (.cells #[.slice a n cc] 33)) B g d wv s z ⟨1, 0, 1, 0⟩ 0 _ _ 1 1 [p] H3.out hrok (by show 0 ≤ 1; omega) (by omega) (by have := HN.out; omega) (bl_one (HP.out.below B2.out) HNN.out (Q := fun k => k < w.heap.size) LQ.out) (fun k hk => by
      rcases hk with hk | hk
      · exact Nat.lt_of_lt_of_le hk B3.out.size
      · rw [hk]; simp) (fun t ht => by rw [List.mem_singleton] at ht; subst ht; have := HNN.out; omega) (by have := HJL.out; omega) (by simp) L3.out hB0 (by have := HST.out; omega) (by have := HW.out; omega))
  have HPC := hid (putS_code s z ⟨1, 0, 1, 0⟩ 0 (joinL [p]))
  have HPS := hid (putS_small s z ⟨1, 0, 1, 0⟩ 0 (joinL [p]))
  obtain ⟨P1, hP1⟩ : ∃ P1, putS s z ⟨1, 0, 1, 0⟩ 0 (joinL [p]) = P1 := ⟨_, rfl⟩
  have HP1 := hid hP1
  rw [hP1] at CW HPC HPS
  obtain ⟨s1, r1⟩ := P1
  dsimp only at CW HPC HPS
  clear hP1 b3
  have k2c := K2.out.cell
  have k20 := k2c 0
  have k21 := k2c 1
  have k22 := k2c 2
  have k23 := k2c 3
  clear k2c
  dsimp only [List.getElem?_cons_zero, List.getElem?_cons_succ] at k20 k21 k22 k23
  go_upto_region 8 with (go_at_call 77; go_must (refine CW.out.mono ?_; rintro e w4 ht; obtain ⟨wv4, rfl, h4, hc4, hin4⟩ := ht; have K4 := hid (K3.out.keep hc4 (fun hm => by have := (H.out.in_ge y hm).2; have := HY.out; omega)); have H4 := hid h4; have C4 := hid ((Chg.of_below _ B3.out).trans hc4); have I4 := hid (show ∀ k ∈ slS g d wv4, k ∈ slS g d wv ∨ w.heap.size ≤ k from (fun k hk => by rcases slS_mem hk with e | e | hk; exact .inl (by simp [slS, e]); exact .inl (by simp [slS, e]); exact (hin4 k hk).imp id (fun h => Nat.le_trans B3.out.size h))); clear h4 hc4 hin4; dsimp only))
  by_cases h0r : r1 = 0
  case neg =>
    have h0r' : ((r1 : Int) != 0) = true := by rw [bne_iff_ne]; omega
    have e2 : formatS s (z : Int) p = (s1, r1) := by
      unfold formatS
      rw [HF.out, if_neg (by simp), HN.out, if_neg HS.out, Int.toNat_natCast, HP1.out, thenS_stop (by simpa using h0r)]
    have E2 := hid e2
    clear e2 h0r
    go_wp2_with fail
    go_ret
    rw [E2.out]
    exact ⟨wv4, rfl, H4.out, C4.out, fun k hk => I4.out k (by simp [slS, hk])⟩
  subst h0r
  have e2 : formatS s (z : Int) p = storeB s1 ⟨1, 0, 1, 0⟩ := by
    unfold formatS
    rw [HF.out, if_neg (by simp), HN.out, if_neg HS.out, Int.toNat_natCast, HP1.out, thenS_go rfl]
  have E2 := hid e2
  have LD4 := hid (show Laid w4 from HQ.out.below (C4.out.below (B := 1) (by have := HQ.out.1; omega) (fun k hk => by have := (H.out.in_ge k hk).1; omega)) (by decide))
  have CS := hid (show Calls Tryd.prog 70 #[.pointer (some ⟨g, 0, none⟩), .agg #[.int .u32 1, .int .u32 0, .int .u32 1, .int .u8 0]] w4 (SlabTo w4 B g d wv4 (storeB s1 ⟨1, 0, 1, 0⟩).1 (storeB s1 ⟨1, 0, 1, 0⟩).2) from
    store_calls w4 B g d wv4 s1 ⟨1, 0, 1, 0⟩ H4.out hrok LD4.out (by have h1 := HPS.out.1; have := HST.out; have h2 := HN.out; unfold partsL at h2; omega) (by have h1 := HPS.out.2; have := HW.out; have h2 := HN.out; unfold partsL at h2; omega))
  clear e2 k20 k21 k22 k23
  have k2c := K4.out.cell
  have k20 := k2c 0
  have k21 := k2c 1
  have k22 := k2c 2
  have k23 := k2c 3
  clear k2c
  dsimp only [List.getElem?_cons_zero, List.getElem?_cons_succ] at k20 k21 k22 k23
  go_wp2_with (go_at_call 70; go_must (refine CS.out.mono ?_; rintro e w5 ht; have T5 := hid (SlabTo.then C4.out I4.out ht); obtain ⟨wv5, rfl, h5, hc5, hin5⟩ := ht; clear h5 hc5 hin5; dsimp only))
  go_ret
  rw [E2.out]
  exact T5.out
theorem IsScr.rooted {w w' : World} {B g q : Nat} {Q : Nat → Prop} {sv rv : Value} {ts : List TS} {c : Scr} (h : IsScr w B g q Q sv rv ts c) (r' : RootD) (hok : r'.Ok) (har : r'.area ≤ 1) (hc : Chg [q] w w') (hown : Blk w' q (scrV g { c with root := r' } sv rv) 138) : IsScr w' B g q Q sv rv ts { c with root := r' } :=
  ⟨hown, h.ge, h.snap.keep hc (fun k hk hq => by rw [List.mem_singleton] at hk; subst hk; exact h.nq hq) (fun _ h => h), h.recs, h.row.chg hc (fun k hk hm => (h.no k hk).2 (List.mem_singleton.1 hm)), fun t ht => ⟨bs_keep (h.tx t ht).1 hc (.inr fun x hx hm => by
    have h1 := (h.tx t ht).2 x hx
    rw [List.mem_singleton] at hm
    rw [hm] at h1
    exact h.nq h1), (h.tx t ht).2⟩, fun k hk => ⟨(h.inQ k hk).1, Nat.lt_of_lt_of_le (h.inQ k hk).2 hc.size⟩, h.nq, h.no, ⟨h.ok.size, h.ok.next, hok, har, h.ok.few, h.ok.small, h.ok.smalls⟩⟩
def SOpenTo (w : World) (B g d : Nat) (wv : Value) (x : Sl × Option Scr × Nat) (e : Ending) (w' : World) : Prop :=
  ∃ wv', Chg (slS g d wv) w w' ∧ (∀ k ∈ slS g d wv', k ∈ slS g d wv ∨ w.heap.size ≤ k) ∧ match x.2.1 with
    | none => e = .returned (.tuple #[.pointer none, .int .i64 (x.2.2 : Int)]) ∧ IsSlab w' B g d wv' x.1
    | some c => ∃ q Q sv rv ts, e = .returned (.tuple #[.pointer (some ⟨q, 0, none⟩), .int .i64 0]) ∧ ScAt w' B g d wv' q Q sv rv ts c ∧ w.heap.size ≤ q ∧ (∀ k, Q k → w.heap.size ≤ k) ∧ ∀ k, rv.ownBlock = some k → w.heap.size ≤ k
theorem sopen_no {w w' : World} {B g d : Nat} {wv : Value} {s : Sl} {r : Nat} (h : IsSlab w B g d wv s) (hb : Below w.heap.size w w') : SOpenTo w B g d wv (s, none, r) (.returned (.tuple #[.pointer none, .int .i64 (r : Int)])) w' := ⟨wv, Chg.of_below _ hb, fun _k hk => .inl hk, rfl, h.below hb⟩
set_option maxRecDepth 100000 in
set_option maxHeartbeats 8000000 in
theorem sopen_calls (w : World) (B g d : Nat) (wv : Value) (s : Sl) (size : Int) (h : IsSlab w B g d wv s) (hz : -9223372036854775808 ≤ size ∧ size ≤ 9223372036854775807) (hl : s.done.length ≤ 100000) (hq : Laid w) (hB0 : 0 < B) (hst : s.steps + 10 < 1000000) (hw : s.way.length + 10 < 1000000) :
    Calls Tryd.prog 29 #[.pointer (some ⟨g, 0, none⟩), .int .i64 size] w (SOpenTo w B g d wv (openS s size)) := by
  have H := hid h
  have HQ := hid hq
  have HST := hid hst
  have HW := hid hw
  have CF := hid (fits_calls w B g d wv s size h hz hl)
  have CL := hid (load_calls w B g d wv s h hq)
  obtain ⟨F, hF⟩ : ∃ F, fitsS s size = F := ⟨_, rfl⟩
  have HF := hid hF
  rw [hF] at CF
  obtain ⟨⟨r, e0⟩, hL⟩ : ∃ L, loadB s = L := ⟨_, rfl⟩
  have HLD := hid hL
  have HLC := hid (loadB_code s)
  unfold LoadTo at CL
  rw [hL] at CL HLC
  dsimp only at CL HLC
  clear h hq hst hw hF hL
  go_enter Tryd.func29, Tryd.ntmps29
  go_upto_region 2 with (go_at_call 67; go_must (refine CF.out.mono ?_; rintro e w1 ⟨rfl, rfl⟩; dsimp only))
  by_cases hf0 : F = 0
  case neg =>
    have hf' : ((F : Int) != 0) = true := by rw [bne_iff_ne]; omega
    have e2 : openS s size = (s, none, F) := by unfold openS; rw [HF.out, if_pos hf0]
    have E2 := hid e2
    clear e2 hf0
    go_wp2_with fail
    go_ret2
    rw [E2.out]
    exact sopen_no H.out (Below.refl _ _)
  subst hf0
  go_upto_region 4 with fail
  go_upto_region 5 with (go_at_call 68; go_must (refine CL.out.mono ?_; rintro e w1 ⟨rfl, hb1⟩; have B1 := hid hb1; clear hb1; dsimp only))
  by_cases h0 : e0 = 0
  case neg =>
    have h0' : ((e0 : Int) != 0) = true := by rw [bne_iff_ne]; omega
    have e2 : openS s size = (s, none, e0) := by unfold openS; rw [HF.out, if_neg (by simp), HLD.out, if_pos (by simpa using h0)]
    have E2 := hid e2
    clear e2 h0
    go_wp2_with fail
    go_ret2
    rw [E2.out]
    exact sopen_no H.out (B1.out.trans ((below_alloc w1 _).mono B1.out.size))
  subst h0
  have hfo := fitsS_ok HF.out
  obtain ⟨z, rfl⟩ : ∃ z : Nat, size = (z : Int) := ⟨size.toNat, by omega⟩
  have hz4 : (z : Int) ≤ 4096 := hfo.2.1
  have HFO := hid hfo
  have LOK := hid (loadB_ok HLD.out)
  have LON := hid (loadB_on HLD.out)
  have hgl : ¬ (4294967296 ≤ (r.gen : Int)) := by have := LOK.out.1.gen; omega
  have htl : ¬ (4294967296 ≤ (r.turn : Int)) := by have := LOK.out.1.turn; omega
  have hel : ¬ (4294967296 ≤ (r.epoch : Int)) := by have := LOK.out.1.epoch; omega
  clear hfo
  have b2 := below_alloc w1 (.cells #[.int .u32 (r.turn : Int), .int .u32 (r.epoch : Int), .int .u32 (r.gen : Int), .int .u8 (r.area : Int)] 134)
  have k2 := blk_alloc w1 [.int .u32 (r.turn : Int), .int .u32 (r.epoch : Int), .int .u32 (r.gen : Int), .int .u8 (r.area : Int)] 134
  obtain ⟨y, hy⟩ : ∃ y, w1.heap.size = y := ⟨_, rfl⟩
  have B2 := hid (B1.out.trans (b2.mono B1.out.size))
  have HY := hid (show w.heap.size ≤ y from by rw [← hy]; exact B1.out.size)
  rw [hy] at k2 ⊢
  have K2 := hid k2
  clear b2 k2 hy
  generalize (w1.alloc (.cells #[.int .u32 (r.turn : Int), .int .u32 (r.epoch : Int), .int .u32 (r.gen : Int), .int .u8 (r.area : Int)] 134)) = w2 at B2 K2 ⊢
  have k20 := K2.out.get 0 rfl
  have k21 := K2.out.get 1 rfl
  have k22 := K2.out.get 2 rfl
  have k23 := K2.out.get 3 rfl
  go_upto_region 8 with fail
  have b3 := below_alloc w2 (.cells #[.pointer (some ⟨g, 0, none⟩), .int .i64 (z : Int), .int .u32 (r.turn : Int), .int .u32 (r.epoch : Int), .int .u32 (r.gen : Int), .int .u8 (r.area : Int), .int .i64 0, .slice none 0 0, .slice none 0 0, .bool false] 138)
  have q3 : Blk (w2.alloc (.cells #[.pointer (some ⟨g, 0, none⟩), .int .i64 (z : Int), .int .u32 (r.turn : Int), .int .u32 (r.epoch : Int), .int .u32 (r.gen : Int), .int .u8 (r.area : Int), .int .i64 0, .slice none 0 0, .slice none 0 0, .bool false] 138)) w2.heap.size (scrV g (sc0 s z r) (.slice none 0 0) (.slice none 0 0)) 138 := blk_alloc w2 _ _
  obtain ⟨q, hq⟩ : ∃ q, w2.heap.size = q := ⟨_, rfl⟩
  have B3 := hid (B2.out.trans (b3.mono B2.out.size))
  have HQ3 := hid (show w.heap.size ≤ q ∧ q ≠ y from ⟨by rw [← hq]; exact B2.out.size, by have := K2.out.lt; omega⟩)
  rw [hq] at q3 ⊢
  have Q3 := hid q3
  have K3 := hid (K2.out.below b3)
  clear b3 q3 hq k20 k21 k22 k23
  generalize (w2.alloc (.cells #[.pointer (some ⟨g, 0, none⟩), .int .i64 (z : Int), .int .u32 (r.turn : Int), .int .u32 (r.epoch : Int), .int .u32 (r.gen : Int), .int .u8 (r.area : Int), .int .i64 0, .slice none 0 0, .slice none 0 0, .bool false] 138)) = w3 at B3 K3 Q3 ⊢
  have CR := hid (sread_calls w3 B g d wv q s z r (H.out.below B3.out) Q3.out (fun hm => by have := (H.out.in_ge q hm).2; have := HQ3.out.1; omega) (by have h1 := (H.out.in_ge g (by simp [slS])); have := HQ3.out.1; omega) hB0 LOK.out.1 LOK.out.2 (by omega) (by have := HFO.out.2.2; omega) LON.out (HQ.out.below B3.out HQ.out.1))
  clear CL CF
  go_upto_region 9 with (go_at_call 69; go_must (refine CR.out.mono ?_; rintro e w4 ⟨hc4, ht4⟩; have C4 := hid hc4; have K4 := hid (K3.out.keep hc4 (by rw [List.mem_singleton]; exact fun e => HQ3.out.2 e.symm)); have CC4 := hid (show Below w.heap.size w w4 from B3.out.trans (hc4.below B3.out.size (fun k hk => by rw [List.mem_singleton] at hk; subst hk; exact HQ3.out.1))); clear hc4; rcases ht4 with ⟨rfl, ht4⟩ | ⟨rfl, hne4, ht4⟩; all_goals dsimp only))
  · have e2 : openS s (z : Int) = (s, none, 4) := by
      unfold openS
      rw [HF.out, if_neg (by simp), HLD.out, if_neg (by simp), Int.toNat_natCast, if_pos ht4]
    have E2 := hid e2
    clear e2
    go_wp2_with fail
    go_ret2
    rw [E2.out]
    exact sopen_no H.out CC4.out
  have IS4 := hid ht4
  have NE4 := hid hne4
  clear ht4 hne4
  have k20 := K4.out.get 0 rfl
  have k21 := K4.out.get 1 rfl
  by_cases hbig : r.epoch = 4294967295 ∨ r.turn = 4294967295
  · have e2 : openS s (z : Int) = (s, none, 8) := by
      unfold openS
      rw [HF.out, if_neg (by simp), HLD.out, if_neg (by simp), Int.toNat_natCast, if_neg NE4.out, if_pos hbig]
    have E2 := hid e2
    have HBG := hid hbig
    clear e2 hbig
    by_cases he : r.epoch = 4294967295
    · have he' : ((r.epoch : Int) == 4294967295) = true := by rw [he]; rfl
      clear he
      go_wp2_with fail
      go_ret2
      rw [E2.out]
      exact sopen_no H.out CC4.out
    · have he' : ((r.epoch : Int) == 4294967295) = false := by rw [beq_eq_false_iff_ne]; omega
      have ht' : ((r.turn : Int) == 4294967295) = true := by
        rcases HBG.out with h | h
        · exact absurd h he
        · rw [h]; rfl
      clear he
      go_wp2_with fail
      go_ret2
      rw [E2.out]
      exact sopen_no H.out CC4.out
  have he' : ((r.epoch : Int) == 4294967295) = false := by rw [beq_eq_false_iff_ne]; omega
  have ht' : ((r.turn : Int) == 4294967295) = false := by rw [beq_eq_false_iff_ne]; omega
  have hel2 : ¬ (4294967295 ≤ (r.epoch : Int)) := by omega
  have htl2 : ¬ (4294967295 ≤ (r.turn : Int)) := by omega
  have HBG := hid hbig
  clear hbig
  obtain ⟨Q, sv, rv, ts, his, hqn, hrn⟩ := IS4.out
  have S4 := hid his
  have QN := hid hqn
  have RN := hid hrn
  have x3 : w4.cell? ⟨q, 3, none⟩ = some (.int .u32 (r.epoch : Int)) := his.own.get 3 rfl
  have x2 : w4.cell? ⟨q, 2, none⟩ = some (.int .u32 (r.turn : Int)) := his.own.get 2 rfl
  have f3 := his.own.free 3
  have f2 := his.own.free 2
  clear his hqn hrn IS4
  go_upto_region 15 with fail
  have hc5 : Chg [q] w4 ((w4.setCell ⟨q, 3, none⟩ (.int .u32 ((r.epoch : Int) + 1))).setCell ⟨q, 2, none⟩ (.int .u32 ((r.turn : Int) + 1))) := (chg_setCell w4 q 3 (.int .u32 ((r.epoch : Int) + 1))).trans (chg_setCell _ q 2 (.int .u32 ((r.turn : Int) + 1)))
  have hown5 := (S4.out.own.set 3 (.int .u32 ((r.epoch : Int) + 1))).set 2 (.int .u32 ((r.turn : Int) + 1))
  obtain ⟨w5, hw5⟩ : ∃ w5, ((w4.setCell ⟨q, 3, none⟩ (.int .u32 ((r.epoch : Int) + 1))).setCell ⟨q, 2, none⟩ (.int .u32 ((r.turn : Int) + 1))) = w5 := ⟨_, rfl⟩
  rw [hw5] at hc5 hown5 ⊢
  have hnok : (nextR r).Ok := ⟨by show r.turn + 1 < _; have := LOK.out.1.turn; omega, by show r.epoch + 1 < _; have := LOK.out.1.epoch; omega, LOK.out.1.gen, LOK.out.1.area⟩
  have S5 := hid (S4.out.rooted (nextR r) hnok LOK.out.2 hc5 hown5)
  have CC5 := hid (show Below w.heap.size w w5 from CC4.out.trans (hc5.below CC4.out.size (fun k hk => by rw [List.mem_singleton] at hk; subst hk; exact HQ3.out.1)))
  have H5 := hid (H.out.below CC5.out)
  have CS := hid (show Calls Tryd.prog 70 #[.pointer (some ⟨g, 0, none⟩), .agg #[.int .u32 ((r.turn : Int) + 1), .int .u32 ((r.epoch : Int) + 1), .int .u32 (r.gen : Int), .int .u8 (r.area : Int)]] w5 (SlabTo w5 B g d wv (storeB s (nextR r)).1 (storeB s (nextR r)).2) from
    store_calls w5 B g d wv s (nextR r) H5.out hnok (HQ.out.below CC5.out HQ.out.1) (by have := HST.out; omega) (by have := HW.out; omega))
  have HSC := hid (storeB_code s (nextR r))
  obtain ⟨P6, hP6⟩ : ∃ P6, storeB s (nextR r) = P6 := ⟨_, rfl⟩
  have HP6 := hid hP6
  rw [hP6] at CS HSC
  obtain ⟨s6, r6⟩ := P6
  dsimp only at CS HSC
  clear hP6 hc5 hown5 hw5 x3 x2 f3 f2 k20 k21
  have x2 : w5.cell? ⟨q, 2, none⟩ = some (.int .u32 ((r.turn : Int) + 1)) := S5.out.own.get 2 rfl
  have x3 : w5.cell? ⟨q, 3, none⟩ = some (.int .u32 ((r.epoch : Int) + 1)) := S5.out.own.get 3 rfl
  have x4 : w5.cell? ⟨q, 4, none⟩ = some (.int .u32 (r.gen : Int)) := S5.out.own.get 4 rfl
  have x5 : w5.cell? ⟨q, 5, none⟩ = some (.int .u8 (r.area : Int)) := S5.out.own.get 5 rfl
  go_upto_region 16 with (go_at_call 70; go_must (refine CS.out.mono ?_; rintro e w6 ht; obtain ⟨wv6, rfl, h6, hc6, hin6⟩ := ht; have H6 := hid h6; have C6 := hid hc6; have I6 := hid (show ∀ k ∈ slS g d wv6, k ∈ slS g d wv ∨ w5.heap.size ≤ k from (fun k hk => by rcases slS_mem hk with e | e | hk; exact .inl (by simp [slS, e]); exact .inl (by simp [slS, e]); exact (hin6 k hk))); clear h6 hc6 hin6; dsimp only))
  have CH6 := hid (show Chg (slS g d wv) w w6 from (Chg.of_below _ CC5.out).trans C6.out)
  have IN6 := hid (show ∀ k ∈ slS g d wv6, k ∈ slS g d wv ∨ w.heap.size ≤ k from fun k hk => (I6.out k hk).imp id fun h => Nat.le_trans CC5.out.size h)
  by_cases h0r : r6 = 0
  case neg =>
    have h0r' : ((r6 : Int) != 0) = true := by rw [bne_iff_ne]; omega
    have e2 : openS s (z : Int) = (s6, none, r6) := by
      unfold openS
      rw [HF.out, if_neg (by simp), HLD.out, if_neg (by simp), Int.toNat_natCast, if_neg NE4.out, if_neg HBG.out, HP6.out, if_pos (by simpa using h0r)]
    have E2 := hid e2
    clear e2 h0r
    go_wp2_with fail
    go_ret2
    rw [E2.out]
    exact ⟨wv6, CH6.out, IN6.out, rfl, H6.out⟩
  subst h0r
  have e2 : openS s (z : Int) = (s6, some ⟨s6, z, nextR r, (readS s z r).next, ((readS s z r).out.headD []).headD [], ((readS s z r).out.drop 1).flatten, false⟩, 0) := by
    unfold openS
    rw [HF.out, if_neg (by simp), HLD.out, if_neg (by simp), Int.toNat_natCast, if_neg NE4.out, if_neg HBG.out, HP6.out, if_neg (by simp)]
  have E2 := hid e2
  have hsl : ∀ k ∈ slS g d wv, k ≠ q ∧ ¬ Q k ∧ rv.ownBlock ≠ some k := fun k hk => by
    have h1 := (H.out.in_ge k hk).2
    refine ⟨fun e => ?_, fun hq => ?_, fun e => ?_⟩
    · have := HQ3.out.1; omega
    · have := QN.out k hq; have := B3.out.size; omega
    · have := RN.out k e; have := B3.out.size; omega
  have A6 : ScAt w6 B g d wv6 q Q sv rv ts ⟨s6, z, nextR r, (readS s z r).next, ((readS s z r).out.headD []).headD [], ((readS s z r).out.drop 1).flatten, false⟩ := ⟨H6.out, (S5.out.keep C6.out hsl).slab s6, fun k hk => by
    rcases I6.out k hk with h | h
    · exact hsl k h
    · refine ⟨fun e => ?_, fun hq => ?_, fun e => ?_⟩
      · have := S5.out.own.lt; omega
      · have := (S5.out.inQ k hq).2; omega
      · have := (S5.out.row.ownBlock k e).2; omega⟩
  have A6h := hid A6
  clear e2 A6 hsl x2 x3 x4 x5
  go_wp2_with fail
  go_ret2
  rw [E2.out]
  exact ⟨wv6, CH6.out, IN6.out, q, Q, sv, rv, ts, rfl, A6h.out, HQ3.out.1, fun k hk => Nat.le_trans B3.out.size (QN.out k hk), fun k hk => Nat.le_trans B3.out.size (RN.out k hk)⟩
end Go.Proofs.YtoapibbbooongaaDoor
