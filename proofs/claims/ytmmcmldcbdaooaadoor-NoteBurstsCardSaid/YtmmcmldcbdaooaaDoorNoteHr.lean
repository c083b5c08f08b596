/- The walks of layer 4: read (rep). -/
import Derived.Test.YtmmcmldcbdaooaaDoorNoteH
namespace Go.Proofs.YtmmcmldcbdaooaaDoor
open Go.RowKit Go.Quad _root_.Quad _root_.Quad.Ink

set_option maxRecDepth 100000 in
set_option maxHeartbeats 2000000 in
theorem repRead2_calls (n : RepD) (gs : Nat) (pv : Value) (gr : Bool) (w : World) (hok : n.Ok) (hs : Blk w gs [pv, .bool gr] 86) :
    Calls Tryd.prog 62 #[.agg (repV n).toArray, .pointer (some ⟨gs, 0, none⟩)] w (Said (!gr && formR n) w) := by
  have hR := fun w' => rightReply_calls n w' hok
  obtain ⟨fm, hfm⟩ : ∃ fm, formR n = fm := ⟨_, rfl⟩
  simp only [hfm] at hR ⊢
  clear hfm
  obtain ⟨client, seq, ee, job, state, credit⟩ := n
  have HR := hid hR
  have c1 := (hs.below (below_alloc w (.cells (repV ⟨client, seq, ee, job, state, credit⟩).toArray 45))).get 1 rfl
  have hlt := hs.lt
  clear hR hok hs
  simp only [repV] at c1 ⊢
  cases gr
  · simp only [Bool.not_false, Bool.true_and]
    go_enter Tryd.func62, Tryd.ntmps62
    go_wp2_with fail
    refine (HR.out _).mono ?_
    rintro e w1 ⟨rfl, hb⟩
    have W1 := hid ((below_alloc w (.cells (repV ⟨client, seq, ee, job, state, credit⟩).toArray 45)).trans (hb.mono (by simp)))
    clear hb c1
    go_wp2_with fail
    go_ret
    exact ⟨rfl, W1.out⟩
  · simp only [Bool.not_true, Bool.false_and]
    go_enter Tryd.func62, Tryd.ntmps62
    go_wp2_with fail
    go_ret
    exact ⟨rfl, below_alloc w _⟩

/-- what is read, or the error -/
def readrepL (p : List UInt8) : RepD × Int :=
  if (untieL p).2 ≠ 0 then (repZ, (untieL p).2)
  else if (numS ((untieL p).1, false)).1 = 3 ∧ (rdrep (numS ((untieL p).1, false)).2).2.2 = ([], false) ∧ (rdrep (numS ((untieL p).1, false)).2).2.1 = false ∧ formR (rdrep (numS ((untieL p).1, false)).2).1 = true
    then ((rdrep (numS ((untieL p).1, false)).2).1, 0) else (repZ, 4)

theorem readrep_err {p : List UInt8} (h : (untieL p).2 ≠ 0) : readrepL p = (repZ, (untieL p).2) := by unfold readrepL; rw [if_pos h]
theorem readrep_good {p : List UInt8} (h : (untieL p).2 = 0) (h1 : (numS ((untieL p).1, false)).1 = 3) (h2 : (rdrep (numS ((untieL p).1, false)).2).2.2 = ([], false)) (h3 : (rdrep (numS ((untieL p).1, false)).2).2.1 = false) (h4 : formR (rdrep (numS ((untieL p).1, false)).2).1 = true) :
    readrepL p = ((rdrep (numS ((untieL p).1, false)).2).1, 0) := by unfold readrepL; rw [if_neg (by simpa using h), if_pos ⟨h1, h2, h3, h4⟩]
theorem readrep_bad {p : List UInt8} (h : (untieL p).2 = 0) (h1 : ¬ ((numS ((untieL p).1, false)).1 = 3 ∧ (rdrep (numS ((untieL p).1, false)).2).2.2 = ([], false) ∧ (rdrep (numS ((untieL p).1, false)).2).2.1 = false ∧ formR (rdrep (numS ((untieL p).1, false)).2).1 = true)) :
    readrepL p = (repZ, 4) := by unfold readrepL; rw [if_neg (by simpa using h), if_neg h1]

def Gotrep (S : List Nat) (w : World) (r : RepD × Int) (e : Ending) (w' : World) : Prop :=
  e = .returned (.tuple #[.agg (repV r.1).toArray, .int .i64 r.2]) ∧ Chg S w w'

theorem rdrep_ok (s : St) : (rdrep s).1.Ok := by
  unfold rdrep
  dsimp only
  constructor <;> first | exact Nat.mod_lt _ (by decide) | exact intS_range _

set_option maxRecDepth 100000 in
set_option maxHeartbeats 8000000 in
theorem repOpen_calls (a : Option Addr) (c : Nat) (l : List UInt8) (gs : Nat) (pv : Value) (w : World) (h : BS w a c l) (hl : l.length ≤ 100000) (hq : Laid w) (hs : Blk w gs [pv, .bool false] 86) :
    Calls Tryd.prog 60 #[.slice a l.length c, .int .u64 3, .func (.func 61) #[] #[.pointer (some ⟨gs, 0, none⟩)], .func (.func 62) #[] #[.pointer (some ⟨gs, 0, none⟩)]] w (Gotrep [gs] w (readrepL l)) := by
  have hgs := hs.lt
  have hb1 := below_alloc w (.cells #[.int .u8 0, .int .u32 0, .int .i64 0, .int .u32 0, .int .u8 0, .int .i64 0] 45)
  have hb2 := below_alloc (w.alloc (.cells #[.int .u8 0, .int .u32 0, .int .i64 0, .int .u32 0, .int .u8 0, .int .i64 0] 45)) (.cells #[.int .u8 0, .int .u32 0, .int .i64 0, .int .u32 0, .int .u8 0, .int .i64 0] 45)
  have hb := below_step hb1 hb2
  have BSW := hid (h.below hb)
  have LW := hid (hq.below hb hq.1)
  have SW := hid (hs.below hb)
  have CW := hid (Chg.of_below [gs] hb)
  obtain ⟨z8, hz8⟩ : ∃ z8, w.heap.size = z8 := ⟨_, rfl⟩
  have Z8 := hid (show Blk ((w.alloc (.cells #[.int .u8 0, .int .u32 0, .int .i64 0, .int .u32 0, .int .u8 0, .int .i64 0] 45)).alloc (.cells #[.int .u8 0, .int .u32 0, .int .i64 0, .int .u32 0, .int .u8 0, .int .i64 0] 45)) z8 [.int .u8 0, .int .u32 0, .int .i64 0, .int .u32 0, .int .u8 0, .int .i64 0] 45 from by rw [← hz8]; exact (blk_alloc w [.int .u8 0, .int .u32 0, .int .i64 0, .int .u32 0, .int .u8 0, .int .i64 0] 45).below hb2)
  have Z10 := hid (show Blk ((w.alloc (.cells #[.int .u8 0, .int .u32 0, .int .i64 0, .int .u32 0, .int .u8 0, .int .i64 0] 45)).alloc (.cells #[.int .u8 0, .int .u32 0, .int .i64 0, .int .u32 0, .int .u8 0, .int .i64 0] 45)) (z8 + 1) [.int .u8 0, .int .u32 0, .int .i64 0, .int .u32 0, .int .u8 0, .int .i64 0] 45 from by
    have := blk_alloc (w.alloc (.cells #[.int .u8 0, .int .u32 0, .int .i64 0, .int .u32 0, .int .u8 0, .int .i64 0] 45)) [.int .u8 0, .int .u32 0, .int .i64 0, .int .u32 0, .int .u8 0, .int .i64 0] 45
    rw [show (w.alloc (.cells #[.int .u8 0, .int .u32 0, .int .i64 0, .int .u32 0, .int .u8 0, .int .i64 0] 45)).heap.size = z8 + 1 from by rw [← hz8]; simp] at this
    exact this)
  have G8 := hid (show gs < z8 from by rw [← hz8]; exact hgs)
  have hsz : z8 + 2 ≤ ((w.alloc (.cells #[.int .u8 0, .int .u32 0, .int .i64 0, .int .u32 0, .int .u8 0, .int .i64 0] 45)).alloc (.cells #[.int .u8 0, .int .u32 0, .int .i64 0, .int .u32 0, .int .u8 0, .int .i64 0] 45)).heap.size := by rw [← hz8]; simp
  have HSZ := hid hsz
  have H8 := hid hz8
  have Hl := hid hl
  clear hgs hb1 hb2 hb h hq hs hsz hl
  go_enter Tryd.func60, Tryd.ntmps60
  go_wp2_with fail
  generalize ((w.alloc (.cells #[.int .u8 0, .int .u32 0, .int .i64 0, .int .u32 0, .int .u8 0, .int .i64 0] 45)).alloc (.cells #[.int .u8 0, .int .u32 0, .int .i64 0, .int .u32 0, .int .u8 0, .int .i64 0] 45)) = w2 at BSW LW SW CW Z8 Z10 HSZ ⊢
  clear hz8
  refine (untie_calls a c l w2 BSW.out LW.out (by have := Hl.out; omega)).mono ?_
  rintro e w3 ⟨v, rfl, ho, hb⟩
  obtain ⟨at', ct, rfl, hbt, _⟩ := ho.bs
  have hrl : (untieL l).1.length ≤ 100000 := by
    have := untieL_len l; have := Hl.out; omega
  have hk0 := hbt.max'
  obtain ⟨t, ht⟩ : ∃ t, (untieL l).1 = t := ⟨_, rfl⟩
  obtain ⟨k, hk⟩ : ∃ k, (untieL l).2 = k := ⟨_, rfl⟩
  rw [ht] at hbt hrl hk0
  rw [ht, hk]
  have BT := hid hbt
  have HRL := hid hrl
  have Ht := hid ht
  have Hk := hid hk
  replace Z8 := hid (Z8.out.below hb)
  replace Z10 := hid (Z10.out.below hb)
  replace SW := hid (SW.out.below hb)
  replace LW := hid (LW.out.below hb LW.out.1)
  replace CW := hid (CW.out.trans (Chg.of_below _ hb))
  replace HSZ := hid (Nat.le_trans HSZ.out hb.size)
  clear ho hb hbt hrl ht hk BSW
  by_cases hk0' : k = 0
  case' neg =>
    have hk1 : (k != 0) = true := by simpa using hk0'
    have HE := hid (readrep_err (p := l) (by rw [Hk.out]; exact hk0'))
    clear hk0'
    go_upto_region 4 with fail
    go_step
    repeat (first | (refine wpList_load_blk (o := ⟨some 23, _, _, _, _, _⟩) 45 (.tmp 10) rfl rfl (z8 + 1) [.int .u8 0, .int .u32 0, .int .i64 0, .int .u32 0, .int .u8 0, .int .i64 0] 45 rfl Z10.out ⟨_, Tryd.underlying45, rfl⟩ (by kernel_rfl) ?_) | (refine wpList_store_blk (o := ⟨none, _, 0, _, _, _⟩) 45 (.tmp 8) (.tmp 23) rfl rfl z8 [.int .u8 0, .int .u32 0, .int .i64 0, .int .u32 0, .int .u8 0, .int .i64 0] [.int .u8 0, .int .u32 0, .int .i64 0, .int .u32 0, .int .u8 0, .int .i64 0] 45 rfl rfl Z8.out rfl (by kernel_rfl) (by simp [Value.oneCell']) ?_; intro wE hZ hE) | go_step)
    refine bodyPost_ret (v := .tuple #[.agg [.int .u8 0, .int .u32 0, .int .i64 0, .int .u32 0, .int .u8 0, .int .i64 0].toArray, .int .i64 k]) (results_blk2 (fn := Tryd.f60) (p := 8) (q := 9) (ty := 45) rfl _ z8 [.int .u8 0, .int .u32 0, .int .i64 0, .int .u32 0, .int .u8 0, .int .i64 0] 45 (.int .i64 k) rfl rfl hZ ⟨_, Tryd.underlying45, rfl⟩ (by kernel_rfl)) rfl ?_
    rw [HE.out, Hk.out]
    exact ⟨rfl, CW.out.newer hE (by have := H8.out; simp; omega)⟩
  subst hk0'
  go_wp2_with fail
  refine (read_calls at' ct t w3 BT.out (by have := HRL.out; omega)).mono ?_
  rintro e w4 ⟨g, rfl, he, hb⟩
  have EY := hid he
  replace Z8 := hid (Z8.out.below hb)
  replace Z10 := hid (Z10.out.below hb)
  replace SW := hid (SW.out.below hb)
  have HG := hid (show z8 + 2 ≤ g from by obtain ⟨_, _, h1⟩ := he; exact Nat.le_trans HSZ.out h1.ge)
  have GL := hid (show w3.heap.size ≤ g from by obtain ⟨_, _, h1⟩ := he; exact h1.ge)
  have C3 := hid (Chg.of_below [gs] hb)
  clear he hb
  go_wp2_with fail
  have hN := enum_calls w4 _ g (t, false) EY.out
  have hNl := numS_lt' (t, false)
  have hNn := numS_len (t, false)
  have hNI := hid (numS_lt (t, false))
  obtain ⟨k0, hk0e⟩ : ∃ k0, (numS (t, false)).1 = k0 := ⟨_, rfl⟩
  obtain ⟨s1, hs1⟩ : ∃ s1, (numS (t, false)).2 = s1 := ⟨_, rfl⟩
  rw [hk0e, hs1] at hN
  rw [hk0e] at hNl
  rw [hs1] at hNn
  have HN := hid hN
  have HNn := hid hNn
  have Hk0 := hid hk0e
  have Hs1 := hid hs1
  clear hN hk0e hs1 hNn EY
  refine HN.out.mono ?_
  rintro e w5 ⟨rfl, he, hc⟩
  have EY := hid he
  replace Z8 := hid (Z8.out.keep hc (by have := HG.out; simp; omega))
  replace Z10 := hid (Z10.out.keep hc (by have := HG.out; simp; omega))
  replace SW := hid (SW.out.keep hc (by have := HG.out; have := G8.out; simp; omega))
  replace C3 := hid (C3.out.newer hc (by have := GL.out; simp; omega))
  clear he hc HN
  go_wp2_with fail
  have hR := repRead1_calls s1 pv EY.out SW.out C3.out (by have := HSZ.out; have := G8.out; omega) (by have := HRL.out; have := HNn.out; (try simp at this); omega)
  have hok := rdrep_ok s1
  obtain ⟨n, hn⟩ : ∃ n, (rdrep s1).1 = n := ⟨_, rfl⟩
  obtain ⟨gr, hgr⟩ : ∃ gr, (rdrep s1).2.1 = gr := ⟨_, rfl⟩
  obtain ⟨s2, hs2⟩ : ∃ s2, (rdrep s1).2.2 = s2 := ⟨_, rfl⟩
  have hR' := hid hR
  have Hok := hid hok
  have Hn := hid hn
  have Hgr := hid hgr
  have Hs2 := hid hs2
  rw [hn] at Hok
  clear hR hok hn hgr hs2 EY
  refine hR'.out.mono ?_
  rintro e w6 HH
  unfold RdrepTo at HH
  rw [Hn.out, Hgr.out, Hs2.out] at HH
  obtain ⟨rfl, hsc, hc⟩ := HH
  have SC := hid hsc
  replace Z8 := hid (Z8.out.keep hc (by have := HG.out; have := G8.out; simp; omega))
  replace Z10 := hid (Z10.out.keep hc (by have := HG.out; have := G8.out; simp; omega))
  clear hsc hc hR'
  have TB : True := trivial
  by_cases hkw : k0 = 3
  case' neg =>
    have hkw' : ((k0 : Int) != 3) = true := by simp; omega
    have HE := hid (readrep_bad (p := l) (by rw [Hk.out]) (by rw [Ht.out, Hk0.out, Hs1.out]; exact fun hh => hkw hh.1))
    clear hkw
    dsimp only
    repeat (first | (refine wpList_store_blk (o := ⟨none, _, 0, _, _, _⟩) 45 (.tmp 15) (.tmp 31) rfl rfl w6.heap.size [.int .u8 0, .int .u32 0, .int .i64 0, .int .u32 0, .int .u8 0, .int .i64 0] (repV n) 45 rfl rfl (blk_alloc w6 [.int .u8 0, .int .u32 0, .int .i64 0, .int .u32 0, .int .u8 0, .int .i64 0] 45) rfl (by kernel_rfl) (by simp [repV, Value.oneCell']) ?_; intro w7 hZ15 hC15) | (refine wpList_load_blk (o := ⟨some 46, _, _, _, _, _⟩) 45 (.tmp 10) rfl rfl (z8 + 1) [.int .u8 0, .int .u32 0, .int .i64 0, .int .u32 0, .int .u8 0, .int .i64 0] 45 rfl ((Z10.out.below (below_alloc w6 (.cells #[.int .u8 0, .int .u32 0, .int .i64 0, .int .u32 0, .int .u8 0, .int .i64 0] 45))).keep hC15 (by have := SC.out.ge; have := HG.out; simp; omega)) ⟨_, Tryd.underlying45, rfl⟩ (by kernel_rfl) ?_) | (refine wpList_store_blk (o := ⟨none, _, 0, _, _, _⟩) 45 (.tmp 8) (.tmp 46) rfl rfl z8 [.int .u8 0, .int .u32 0, .int .i64 0, .int .u32 0, .int .u8 0, .int .i64 0] [.int .u8 0, .int .u32 0, .int .i64 0, .int .u32 0, .int .u8 0, .int .i64 0] 45 rfl rfl ((Z8.out.below (below_alloc w6 (.cells #[.int .u8 0, .int .u32 0, .int .i64 0, .int .u32 0, .int .u8 0, .int .i64 0] 45))).keep hC15 (by have := SC.out.ge; have := HG.out; simp; omega)) rfl (by kernel_rfl) (by simp [Value.oneCell']) ?_; intro wE hZ hE) | go_step)
    refine bodyPost_ret (v := .tuple #[.agg [.int .u8 0, .int .u32 0, .int .i64 0, .int .u32 0, .int .u8 0, .int .i64 0].toArray, .int .i64 4]) (results_blk2 (fn := Tryd.f60) (p := 8) (q := 9) (ty := 45) rfl _ z8 [.int .u8 0, .int .u32 0, .int .i64 0, .int .u32 0, .int .u8 0, .int .i64 0] 45 (.int .i64 4) rfl rfl hZ ⟨_, Tryd.underlying45, rfl⟩ (by kernel_rfl)) rfl ?_
    rw [HE.out]
    exact ⟨rfl, ((CW.out.trans SC.out.chg).newer ((Chg.of_below [w6.heap.size] (below_alloc w6 (.cells #[.int .u8 0, .int .u32 0, .int .i64 0, .int .u32 0, .int .u8 0, .int .i64 0] 45))).trans hC15) (by have := SC.out.ge; have := GL.out; have := (CW.out.trans SC.out.chg).size; have := HSZ.out; have := H8.out; have := CW.out.size; simp; omega)).newer hE (by have := H8.out; simp; omega)⟩
  have hkw' : ((k0 : Int) != 3) = false := by simp; omega
  have HKW := hid hkw
  clear hkw
  dsimp only
  repeat (first | (refine wpList_store_blk (o := ⟨none, _, 0, _, _, _⟩) 45 (.tmp 15) (.tmp 31) rfl rfl w6.heap.size [.int .u8 0, .int .u32 0, .int .i64 0, .int .u32 0, .int .u8 0, .int .i64 0] (repV n) 45 rfl rfl (blk_alloc w6 [.int .u8 0, .int .u32 0, .int .i64 0, .int .u32 0, .int .u8 0, .int .i64 0] 45) rfl (by kernel_rfl) (by simp [repV, Value.oneCell']) ?_; intro w7 hZ15 hC15) | go_step)
  have SC7 := hid (SC.out.other ((Chg.of_below [w6.heap.size] (below_alloc w6 (.cells #[.int .u8 0, .int .u32 0, .int .i64 0, .int .u32 0, .int .u8 0, .int .i64 0] 45))).trans hC15) (by have := SC.out.ge; simp; omega))
  replace Z8 := hid ((Z8.out.below (below_alloc w6 (.cells #[.int .u8 0, .int .u32 0, .int .i64 0, .int .u32 0, .int .u8 0, .int .i64 0] 45))).keep hC15 (by have := SC.out.ge; have := HG.out; simp; omega))
  replace Z10 := hid ((Z10.out.below (below_alloc w6 (.cells #[.int .u8 0, .int .u32 0, .int .i64 0, .int .u32 0, .int .u8 0, .int .i64 0] 45))).keep hC15 (by have := SC.out.ge; have := HG.out; simp; omega))
  have Z15 := hid hZ15
  have C7 := hid (CW.out.trans SC7.out.chg)
  have HG15 := hid (show z8 + 2 ≤ w6.heap.size from by have := SC.out.ge; have := HG.out; omega)
  obtain ⟨z15, hz15⟩ : ∃ z15, w6.heap.size = z15 := ⟨_, rfl⟩
  rw [hz15] at Z15 HG15
  have HZ15 := hid hz15
  clear hZ15 hC15
  refine (end_calls w7 _ g s2.1 s2.2 SC7.out.eye).mono ?_
  rintro e w' ⟨rfl, rfl⟩
  rw [hz15]
  clear hz15
  by_cases hP : s2.2 = true ∨ 0 < s2.1.length
  case' pos =>
    rw [if_pos hP]
    have HE := hid (readrep_bad (p := l) (by rw [Hk.out]) (by rw [Ht.out, Hs1.out, Hs2.out]; rintro ⟨_, hh, _⟩; rw [hh] at hP; simp at hP))
    clear hP
    dsimp only
    repeat (first | (refine wpList_load_blk (o := ⟨some 46, _, _, _, _, _⟩) 45 (.tmp 10) rfl rfl (z8 + 1) [.int .u8 0, .int .u32 0, .int .i64 0, .int .u32 0, .int .u8 0, .int .i64 0] 45 rfl Z10.out ⟨_, Tryd.underlying45, rfl⟩ (by kernel_rfl) ?_) | (refine wpList_store_blk (o := ⟨none, _, 0, _, _, _⟩) 45 (.tmp 8) (.tmp 46) rfl rfl z8 [.int .u8 0, .int .u32 0, .int .i64 0, .int .u32 0, .int .u8 0, .int .i64 0] [.int .u8 0, .int .u32 0, .int .i64 0, .int .u32 0, .int .u8 0, .int .i64 0] 45 rfl rfl Z8.out rfl (by kernel_rfl) (by simp [Value.oneCell']) ?_; intro wE hZ hE) | go_step)
    refine bodyPost_ret (v := .tuple #[.agg [.int .u8 0, .int .u32 0, .int .i64 0, .int .u32 0, .int .u8 0, .int .i64 0].toArray, .int .i64 4]) (results_blk2 (fn := Tryd.f60) (p := 8) (q := 9) (ty := 45) rfl _ z8 [.int .u8 0, .int .u32 0, .int .i64 0, .int .u32 0, .int .u8 0, .int .i64 0] 45 (.int .i64 4) rfl rfl hZ ⟨_, Tryd.underlying45, rfl⟩ (by kernel_rfl)) rfl ?_
    rw [HE.out]
    exact ⟨rfl, C7.out.newer hE (by have := H8.out; simp; omega)⟩
  rw [if_neg hP]
  have HP := hid (show s2 = ([], false) from by
    obtain ⟨x, y⟩ := s2
    simp only [not_or, Bool.not_eq_true, Nat.not_lt, Nat.le_zero] at hP
    rw [List.eq_nil_of_length_eq_zero hP.2, hP.1])
  clear hP
  dsimp only
  repeat (first | (refine wpList_load_blk (o := ⟨some 42, _, _, _, _, _⟩) 45 (.tmp 15) rfl rfl z15 (repV n) 45 rfl Z15.out ⟨_, Tryd.underlying45, rfl⟩ (by kernel_rfl) ?_) | go_step)
  refine (repRead2_calls n gs _ gr w7 Hok.out SC7.out.scan).mono ?_
  rintro e w8 ⟨rfl, hb⟩
  replace Z8 := hid (Z8.out.below hb)
  replace Z10 := hid (Z10.out.below hb)
  replace Z15 := hid (Z15.out.below hb)
  replace C7 := hid (C7.out.trans (Chg.of_below _ hb))
  clear hb
  rcases Bool.eq_false_or_eq_true (!gr && formR n) with hF | hF
  case' inr =>
    have HE := hid (readrep_bad (p := l) (by rw [Hk.out]) (by rw [Ht.out, Hs1.out, Hgr.out, Hn.out]; rintro ⟨_, _, h1, h2⟩; rw [h1, h2] at hF; simp at hF))
    rw [hF]
    clear hF
    dsimp only
    repeat (first | (refine wpList_load_blk (o := ⟨some 46, _, _, _, _, _⟩) 45 (.tmp 10) rfl rfl (z8 + 1) [.int .u8 0, .int .u32 0, .int .i64 0, .int .u32 0, .int .u8 0, .int .i64 0] 45 rfl Z10.out ⟨_, Tryd.underlying45, rfl⟩ (by kernel_rfl) ?_) | (refine wpList_store_blk (o := ⟨none, _, 0, _, _, _⟩) 45 (.tmp 8) (.tmp 46) rfl rfl z8 [.int .u8 0, .int .u32 0, .int .i64 0, .int .u32 0, .int .u8 0, .int .i64 0] [.int .u8 0, .int .u32 0, .int .i64 0, .int .u32 0, .int .u8 0, .int .i64 0] 45 rfl rfl Z8.out rfl (by kernel_rfl) (by simp [Value.oneCell']) ?_; intro wE hZ hE) | go_step)
    refine bodyPost_ret (v := .tuple #[.agg [.int .u8 0, .int .u32 0, .int .i64 0, .int .u32 0, .int .u8 0, .int .i64 0].toArray, .int .i64 4]) (results_blk2 (fn := Tryd.f60) (p := 8) (q := 9) (ty := 45) rfl _ z8 [.int .u8 0, .int .u32 0, .int .i64 0, .int .u32 0, .int .u8 0, .int .i64 0] 45 (.int .i64 4) rfl rfl hZ ⟨_, Tryd.underlying45, rfl⟩ (by kernel_rfl)) rfl ?_
    rw [HE.out]
    exact ⟨rfl, C7.out.newer hE (by have := H8.out; simp; omega)⟩
  have HE := hid (readrep_good (p := l) (by rw [Hk.out]) (by rw [Ht.out, Hk0.out]; exact HKW.out) (by rw [Ht.out, Hs1.out, Hs2.out]; exact HP.out) (by rw [Ht.out, Hs1.out, Hgr.out]; simp at hF; exact hF.1) (by rw [Ht.out, Hs1.out, Hn.out]; simp at hF; exact hF.2))
  rw [hF]
  clear hF
  dsimp only
  repeat (first | (refine wpList_load_blk (o := ⟨some 47, _, _, _, _, _⟩) 45 (.tmp 15) rfl rfl z15 (repV n) 45 rfl Z15.out ⟨_, Tryd.underlying45, rfl⟩ (by kernel_rfl) ?_) | (refine wpList_store_blk (o := ⟨none, _, 0, _, _, _⟩) 45 (.tmp 8) (.tmp 47) rfl rfl z8 [.int .u8 0, .int .u32 0, .int .i64 0, .int .u32 0, .int .u8 0, .int .i64 0] (repV n) 45 rfl rfl Z8.out rfl (by kernel_rfl) (by simp [repV, Value.oneCell']) ?_; intro wE hZ hE) | go_step)
  refine bodyPost_ret (v := .tuple #[.agg (repV n).toArray, .int .i64 0]) (results_blk2 (fn := Tryd.f60) (p := 8) (q := 9) (ty := 45) rfl _ z8 (repV n) 45 (.int .i64 0) rfl rfl hZ ⟨_, Tryd.underlying45, rfl⟩ (by kernel_rfl)) rfl ?_
  rw [HE.out, Ht.out, Hs1.out, Hn.out]
  exact ⟨rfl, C7.out.newer hE (by have := H8.out; simp; omega)⟩

set_option maxRecDepth 100000 in
set_option maxHeartbeats 2000000 in
theorem readrep_calls (a : Option Addr) (c : Nat) (l : List UInt8) (w : World) (h : BS w a c l) (hl : l.length ≤ 100000) (hq : Laid w) :
    Calls Tryd.prog 23 #[.slice a l.length c] w (Gotrep [] w (readrepL l)) := by
  have hb1 := below_alloc w (.cells #[.int .u8 0, .int .u32 0, .int .i64 0, .int .u32 0, .int .u8 0, .int .i64 0] 45)
  have hb2 := below_alloc (w.alloc (.cells #[.int .u8 0, .int .u32 0, .int .i64 0, .int .u32 0, .int .u8 0, .int .i64 0] 45)) (.cells #[.pointer none, .bool false] 86)
  have hb := below_step hb1 hb2
  have hz : (w.alloc (.cells #[.int .u8 0, .int .u32 0, .int .i64 0, .int .u32 0, .int .u8 0, .int .i64 0] 45)).heap.size = w.heap.size + 1 := by simp
  have hS := blk_alloc (w.alloc (.cells #[.int .u8 0, .int .u32 0, .int .i64 0, .int .u32 0, .int .u8 0, .int .i64 0] 45)) [.pointer none, .bool false] 86
  rw [hz] at hS
  have hZ := (blk_alloc w [.int .u8 0, .int .u32 0, .int .i64 0, .int .u32 0, .int .u8 0, .int .i64 0] 45).below hb2
  have hO := repOpen_calls a c l (w.heap.size + 1) (.pointer none) _ (h.below hb) hl (hq.below hb hq.1) hS
  obtain ⟨r, hr⟩ : ∃ r, readrepL l = r := ⟨_, rfl⟩
  rw [hr] at hO ⊢
  have HO := hid hO
  have HZ := hid hZ
  have HB := hid hb
  clear hb1 hb2 hb hz hS hZ hO hr h hl hq
  go_enter Tryd.func23, Tryd.ntmps23
  go_wp2_with fail
  refine HO.out.mono ?_
  rintro e w1 ⟨rfl, hch⟩
  have Z1 := hid (HZ.out.keep hch (by simp))
  have C1 := hid (Chg.newer (Chg.of_below [] HB.out) hch (by simp))
  clear hch HO HZ
  dsimp only
  repeat (first | (refine wpList_store_blk (o := ⟨none, _, 0, _, _, _⟩) 45 (.tmp 2) (.tmp 9) rfl rfl w.heap.size [.int .u8 0, .int .u32 0, .int .i64 0, .int .u32 0, .int .u8 0, .int .i64 0] (repV r.1) 45 rfl rfl Z1.out rfl (by kernel_rfl) (by simp [repV, Value.oneCell']) ?_; intro wE hZ hE) | go_step)
  refine bodyPost_ret (v := .tuple #[.agg (repV r.1).toArray, .int .i64 r.2]) (results_blk2 (fn := Tryd.f23) (p := 2) (q := 3) (ty := 45) rfl _ w.heap.size (repV r.1) 45 (.int .i64 r.2) rfl rfl hZ ⟨_, Tryd.underlying45, rfl⟩ (by kernel_rfl)) rfl ?_
  exact ⟨rfl, C1.out.newer hE (by simp)⟩

end Go.Proofs.YtmmcmldcbdaooaaDoor
