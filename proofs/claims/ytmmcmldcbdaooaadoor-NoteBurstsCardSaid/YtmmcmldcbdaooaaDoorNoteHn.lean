/- The walks of layer 4: read (note). -/
import Derived.Test.YtmmcmldcbdaooaaDoorNoteH
namespace Go.Proofs.YtmmcmldcbdaooaaDoor
open Go.RowKit Go.Quad _root_.Quad _root_.Quad.Ink

set_option maxRecDepth 100000 in
set_option maxHeartbeats 2000000 in
theorem noteRead2_calls (n : NoteD) (a : Option Addr) (c : Nat) (gs : Nat) (pv : Value) (gr : Bool) (w : World) (hok : n.Ok) (hn : n.blob.length ≤ 9223372036854775807) (hs : Blk w gs [pv, .bool gr] 86) :
    Calls Tryd.prog 51 #[.agg (noteV n (.slice a n.blob.length c)).toArray, .pointer (some ⟨gs, 0, none⟩)] w (Said (!gr && formN n) w) := by
  have hR := fun w' => rightNote_calls n a c w' hok hn
  obtain ⟨fm, hfm⟩ : ∃ fm, formN n = fm := ⟨_, rfl⟩
  simp only [hfm] at hR ⊢
  clear hfm
  obtain ⟨kind, node, epoch, life, tick, gen, job, ver, rank, credit, frm, til, blob⟩ := n
  have HR := hid hR
  have c1 := (hs.below (below_alloc w (.cells (noteV ⟨kind, node, epoch, life, tick, gen, job, ver, rank, credit, frm, til, blob⟩ (.slice a blob.length c)).toArray 25))).get 1 rfl
  have hlt := hs.lt
  clear hR hok hn hs
  simp only [noteV] at c1 ⊢
  cases gr
  · simp only [Bool.not_false, Bool.true_and]
    go_enter Tryd.func51, Tryd.ntmps51
    go_wp2_with fail
    refine (HR.out _).mono ?_
    rintro e w1 ⟨rfl, hb⟩
    have W1 := hid ((below_alloc w (.cells (noteV ⟨kind, node, epoch, life, tick, gen, job, ver, rank, credit, frm, til, blob⟩ (.slice a blob.length c)).toArray 25)).trans (hb.mono (by simp)))
    clear hb c1
    go_wp2_with fail
    go_ret
    exact ⟨rfl, W1.out⟩
  · simp only [Bool.not_true, Bool.false_and]
    go_enter Tryd.func51, Tryd.ntmps51
    go_wp2_with fail
    go_ret
    exact ⟨rfl, below_alloc w _⟩

/-- what is read, or the error -/
def readnoteL (p : List UInt8) : NoteD × Int :=
  if (untieL p).2 ≠ 0 then (noteZ, (untieL p).2)
  else if (numS ((untieL p).1, false)).1 = 1 ∧ (rdnote (numS ((untieL p).1, false)).2).2.2 = ([], false) ∧ (rdnote (numS ((untieL p).1, false)).2).2.1 = false ∧ formN (rdnote (numS ((untieL p).1, false)).2).1 = true
    then ((rdnote (numS ((untieL p).1, false)).2).1, 0) else (noteZ, 4)

theorem readnote_err {p : List UInt8} (h : (untieL p).2 ≠ 0) : readnoteL p = (noteZ, (untieL p).2) := by unfold readnoteL; rw [if_pos h]
theorem readnote_good {p : List UInt8} (h : (untieL p).2 = 0) (h1 : (numS ((untieL p).1, false)).1 = 1) (h2 : (rdnote (numS ((untieL p).1, false)).2).2.2 = ([], false)) (h3 : (rdnote (numS ((untieL p).1, false)).2).2.1 = false) (h4 : formN (rdnote (numS ((untieL p).1, false)).2).1 = true) :
    readnoteL p = ((rdnote (numS ((untieL p).1, false)).2).1, 0) := by unfold readnoteL; rw [if_neg (by simpa using h), if_pos ⟨h1, h2, h3, h4⟩]
theorem readnote_bad {p : List UInt8} (h : (untieL p).2 = 0) (h1 : ¬ ((numS ((untieL p).1, false)).1 = 1 ∧ (rdnote (numS ((untieL p).1, false)).2).2.2 = ([], false) ∧ (rdnote (numS ((untieL p).1, false)).2).2.1 = false ∧ formN (rdnote (numS ((untieL p).1, false)).2).1 = true)) :
    readnoteL p = (noteZ, 4) := by unfold readnoteL; rw [if_neg (by simpa using h), if_neg h1]

def Gotnote (S : List Nat) (w : World) (r : NoteD × Int) (e : Ending) (w' : World) : Prop :=
  ∃ a c, e = .returned (.tuple #[.agg (noteV r.1 (.slice a r.1.blob.length c)).toArray, .int .i64 r.2]) ∧ BS w' a c r.1.blob ∧ (∀ x, a = some x → w.heap.size ≤ x.block) ∧ Chg S w w'

theorem rdnote_ok (s : St) : (rdnote s).1.Ok := by
  unfold rdnote
  dsimp only
  constructor <;> first | exact Nat.mod_lt _ (by decide) | exact intS_range _

set_option maxRecDepth 100000 in
set_option maxHeartbeats 8000000 in
theorem noteOpen_calls (a : Option Addr) (c : Nat) (l : List UInt8) (gs : Nat) (pv : Value) (w : World) (h : BS w a c l) (hl : l.length ≤ 100000) (hq : Laid w) (hs : Blk w gs [pv, .bool false] 86) :
    Calls Tryd.prog 45 #[.slice a l.length c, .int .u64 1, .func (.func 46) #[] #[.pointer (some ⟨gs, 0, none⟩)], .func (.func 51) #[] #[.pointer (some ⟨gs, 0, none⟩)]] w (Gotnote [gs] w (readnoteL l)) := by
  have hgs := hs.lt
  have hb1 := below_alloc w (.cells #[.int .u8 0, .int .u8 0, .int .u32 0, .int .u32 0, .int .u32 0, .int .u32 0, .int .u32 0, .int .u32 0, .int .u8 0, .int .i64 0, .int .u32 0, .int .u32 0, .slice none 0 0] 25)
  have hb2 := below_alloc (w.alloc (.cells #[.int .u8 0, .int .u8 0, .int .u32 0, .int .u32 0, .int .u32 0, .int .u32 0, .int .u32 0, .int .u32 0, .int .u8 0, .int .i64 0, .int .u32 0, .int .u32 0, .slice none 0 0] 25)) (.cells #[.int .u8 0, .int .u8 0, .int .u32 0, .int .u32 0, .int .u32 0, .int .u32 0, .int .u32 0, .int .u32 0, .int .u8 0, .int .i64 0, .int .u32 0, .int .u32 0, .slice none 0 0] 25)
  have hb := below_step hb1 hb2
  have BSW := hid (h.below hb)
  have LW := hid (hq.below hb hq.1)
  have SW := hid (hs.below hb)
  have CW := hid (Chg.of_below [gs] hb)
  obtain ⟨z8, hz8⟩ : ∃ z8, w.heap.size = z8 := ⟨_, rfl⟩
  have Z8 := hid (show Blk ((w.alloc (.cells #[.int .u8 0, .int .u8 0, .int .u32 0, .int .u32 0, .int .u32 0, .int .u32 0, .int .u32 0, .int .u32 0, .int .u8 0, .int .i64 0, .int .u32 0, .int .u32 0, .slice none 0 0] 25)).alloc (.cells #[.int .u8 0, .int .u8 0, .int .u32 0, .int .u32 0, .int .u32 0, .int .u32 0, .int .u32 0, .int .u32 0, .int .u8 0, .int .i64 0, .int .u32 0, .int .u32 0, .slice none 0 0] 25)) z8 [.int .u8 0, .int .u8 0, .int .u32 0, .int .u32 0, .int .u32 0, .int .u32 0, .int .u32 0, .int .u32 0, .int .u8 0, .int .i64 0, .int .u32 0, .int .u32 0, .slice none 0 0] 25 from by rw [← hz8]; exact (blk_alloc w [.int .u8 0, .int .u8 0, .int .u32 0, .int .u32 0, .int .u32 0, .int .u32 0, .int .u32 0, .int .u32 0, .int .u8 0, .int .i64 0, .int .u32 0, .int .u32 0, .slice none 0 0] 25).below hb2)
  have Z10 := hid (show Blk ((w.alloc (.cells #[.int .u8 0, .int .u8 0, .int .u32 0, .int .u32 0, .int .u32 0, .int .u32 0, .int .u32 0, .int .u32 0, .int .u8 0, .int .i64 0, .int .u32 0, .int .u32 0, .slice none 0 0] 25)).alloc (.cells #[.int .u8 0, .int .u8 0, .int .u32 0, .int .u32 0, .int .u32 0, .int .u32 0, .int .u32 0, .int .u32 0, .int .u8 0, .int .i64 0, .int .u32 0, .int .u32 0, .slice none 0 0] 25)) (z8 + 1) [.int .u8 0, .int .u8 0, .int .u32 0, .int .u32 0, .int .u32 0, .int .u32 0, .int .u32 0, .int .u32 0, .int .u8 0, .int .i64 0, .int .u32 0, .int .u32 0, .slice none 0 0] 25 from by
    have := blk_alloc (w.alloc (.cells #[.int .u8 0, .int .u8 0, .int .u32 0, .int .u32 0, .int .u32 0, .int .u32 0, .int .u32 0, .int .u32 0, .int .u8 0, .int .i64 0, .int .u32 0, .int .u32 0, .slice none 0 0] 25)) [.int .u8 0, .int .u8 0, .int .u32 0, .int .u32 0, .int .u32 0, .int .u32 0, .int .u32 0, .int .u32 0, .int .u8 0, .int .i64 0, .int .u32 0, .int .u32 0, .slice none 0 0] 25
    rw [show (w.alloc (.cells #[.int .u8 0, .int .u8 0, .int .u32 0, .int .u32 0, .int .u32 0, .int .u32 0, .int .u32 0, .int .u32 0, .int .u8 0, .int .i64 0, .int .u32 0, .int .u32 0, .slice none 0 0] 25)).heap.size = z8 + 1 from by rw [← hz8]; simp] at this
    exact this)
  have G8 := hid (show gs < z8 from by rw [← hz8]; exact hgs)
  have hsz : z8 + 2 ≤ ((w.alloc (.cells #[.int .u8 0, .int .u8 0, .int .u32 0, .int .u32 0, .int .u32 0, .int .u32 0, .int .u32 0, .int .u32 0, .int .u8 0, .int .i64 0, .int .u32 0, .int .u32 0, .slice none 0 0] 25)).alloc (.cells #[.int .u8 0, .int .u8 0, .int .u32 0, .int .u32 0, .int .u32 0, .int .u32 0, .int .u32 0, .int .u32 0, .int .u8 0, .int .i64 0, .int .u32 0, .int .u32 0, .slice none 0 0] 25)).heap.size := by rw [← hz8]; simp
  have HSZ := hid hsz
  have H8 := hid hz8
  have Hl := hid hl
  clear hgs hb1 hb2 hb h hq hs hsz hl
  go_enter Tryd.func45, Tryd.ntmps45
  go_wp2_with fail
  generalize ((w.alloc (.cells #[.int .u8 0, .int .u8 0, .int .u32 0, .int .u32 0, .int .u32 0, .int .u32 0, .int .u32 0, .int .u32 0, .int .u8 0, .int .i64 0, .int .u32 0, .int .u32 0, .slice none 0 0] 25)).alloc (.cells #[.int .u8 0, .int .u8 0, .int .u32 0, .int .u32 0, .int .u32 0, .int .u32 0, .int .u32 0, .int .u32 0, .int .u8 0, .int .i64 0, .int .u32 0, .int .u32 0, .slice none 0 0] 25)) = w2 at BSW LW SW CW Z8 Z10 HSZ ⊢
  clear hz8
  refine (untie_calls a c l w2 BSW.out LW.out (by have := Hl.out; omega)).mono ?_
  rintro e w3 ⟨v, rfl, ho, hb⟩
  obtain ⟨at', ct, rfl, hbt, _⟩ := ho.bs
  have hrl : (untieL l).1.length ≤ 100000 := by
    have := untieL_len l; have := Hl.out; omega
  have hk0 := hbt.max'
  obtain ⟨t, ht⟩ : ∃ t, (untieL l).1 = t := ⟨_, rfl⟩
  obtain ⟨k, hk⟩ : ∃ k, (untieL l).2 = k := ⟨_, rfl⟩
  rw [ht] at hbt hrl hk0
  rw [ht, hk]
  have BT := hid hbt
  have HRL := hid hrl
  have Ht := hid ht
  have Hk := hid hk
  replace Z8 := hid (Z8.out.below hb)
  replace Z10 := hid (Z10.out.below hb)
  replace SW := hid (SW.out.below hb)
  replace LW := hid (LW.out.below hb LW.out.1)
  replace CW := hid (CW.out.trans (Chg.of_below _ hb))
  replace HSZ := hid (Nat.le_trans HSZ.out hb.size)
  clear ho hb hbt hrl ht hk BSW
  by_cases hk0' : k = 0
  case' neg =>
    have hk1 : (k != 0) = true := by simpa using hk0'
    have HE := hid (readnote_err (p := l) (by rw [Hk.out]; exact hk0'))
    clear hk0'
    go_upto_region 4 with fail
    go_step
    repeat (first | (refine wpList_load_blk (o := ⟨some 23, _, _, _, _, _⟩) 25 (.tmp 10) rfl rfl (z8 + 1) [.int .u8 0, .int .u8 0, .int .u32 0, .int .u32 0, .int .u32 0, .int .u32 0, .int .u32 0, .int .u32 0, .int .u8 0, .int .i64 0, .int .u32 0, .int .u32 0, .slice none 0 0] 25 rfl Z10.out ⟨_, Tryd.underlying25, rfl⟩ (by kernel_rfl) ?_) | (refine wpList_store_blk (o := ⟨none, _, 0, _, _, _⟩) 25 (.tmp 8) (.tmp 23) rfl rfl z8 [.int .u8 0, .int .u8 0, .int .u32 0, .int .u32 0, .int .u32 0, .int .u32 0, .int .u32 0, .int .u32 0, .int .u8 0, .int .i64 0, .int .u32 0, .int .u32 0, .slice none 0 0] [.int .u8 0, .int .u8 0, .int .u32 0, .int .u32 0, .int .u32 0, .int .u32 0, .int .u32 0, .int .u32 0, .int .u8 0, .int .i64 0, .int .u32 0, .int .u32 0, .slice none 0 0] 25 rfl rfl Z8.out rfl (by kernel_rfl) (by simp [Value.oneCell']) ?_; intro wE hZ hE) | go_step)
    refine bodyPost_ret (v := .tuple #[.agg [.int .u8 0, .int .u8 0, .int .u32 0, .int .u32 0, .int .u32 0, .int .u32 0, .int .u32 0, .int .u32 0, .int .u8 0, .int .i64 0, .int .u32 0, .int .u32 0, .slice none 0 0].toArray, .int .i64 k]) (results_blk2 (fn := Tryd.f45) (p := 8) (q := 9) (ty := 25) rfl _ z8 [.int .u8 0, .int .u8 0, .int .u32 0, .int .u32 0, .int .u32 0, .int .u32 0, .int .u32 0, .int .u32 0, .int .u8 0, .int .i64 0, .int .u32 0, .int .u32 0, .slice none 0 0] 25 (.int .i64 k) rfl rfl hZ ⟨_, Tryd.underlying25, rfl⟩ (by kernel_rfl)) rfl ?_
    rw [HE.out, Hk.out]
    exact ⟨none, 0, rfl, BS.nil _, by simp, CW.out.newer hE (by have := H8.out; simp; omega)⟩
  subst hk0'
  go_wp2_with fail
  refine (read_calls at' ct t w3 BT.out (by have := HRL.out; omega)).mono ?_
  rintro e w4 ⟨g, rfl, he, hb⟩
  have EY := hid he
  replace Z8 := hid (Z8.out.below hb)
  replace Z10 := hid (Z10.out.below hb)
  replace SW := hid (SW.out.below hb)
  have HG := hid (show z8 + 2 ≤ g from by obtain ⟨_, _, h1⟩ := he; exact Nat.le_trans HSZ.out h1.ge)
  have GL := hid (show w3.heap.size ≤ g from by obtain ⟨_, _, h1⟩ := he; exact h1.ge)
  have C3 := hid (Chg.of_below [gs] hb)
  clear he hb
  go_wp2_with fail
  have hN := enum_calls w4 _ g (t, false) EY.out
  have hNl := numS_lt' (t, false)
  have hNn := numS_len (t, false)
  have hNI := hid (numS_lt (t, false))
  obtain ⟨k0, hk0e⟩ : ∃ k0, (numS (t, false)).1 = k0 := ⟨_, rfl⟩
  obtain ⟨s1, hs1⟩ : ∃ s1, (numS (t, false)).2 = s1 := ⟨_, rfl⟩
  rw [hk0e, hs1] at hN
  rw [hk0e] at hNl
  rw [hs1] at hNn
  have HN := hid hN
  have HNn := hid hNn
  have Hk0 := hid hk0e
  have Hs1 := hid hs1
  clear hN hk0e hs1 hNn EY
  refine HN.out.mono ?_
  rintro e w5 ⟨rfl, he, hc⟩
  have EY := hid he
  replace Z8 := hid (Z8.out.keep hc (by have := HG.out; simp; omega))
  replace Z10 := hid (Z10.out.keep hc (by have := HG.out; simp; omega))
  replace SW := hid (SW.out.keep hc (by have := HG.out; have := G8.out; simp; omega))
  replace C3 := hid (C3.out.newer hc (by have := GL.out; simp; omega))
  clear he hc HN
  go_wp2_with fail
  have hR := noteRead1_calls s1 pv EY.out SW.out C3.out (by have := HSZ.out; have := G8.out; omega) (by have := HRL.out; have := HNn.out; (try simp at this); omega)
  have hok := rdnote_ok s1
  obtain ⟨n, hn⟩ : ∃ n, (rdnote s1).1 = n := ⟨_, rfl⟩
  obtain ⟨gr, hgr⟩ : ∃ gr, (rdnote s1).2.1 = gr := ⟨_, rfl⟩
  obtain ⟨s2, hs2⟩ : ∃ s2, (rdnote s1).2.2 = s2 := ⟨_, rfl⟩
  have hR' := hid hR
  have Hok := hid hok
  have Hn := hid hn
  have Hgr := hid hgr
  have Hs2 := hid hs2
  rw [hn] at Hok
  clear hR hok hn hgr hs2 EY
  refine hR'.out.mono ?_
  rintro e w6 HH
  unfold RdnoteTo at HH
  rw [Hn.out, Hgr.out, Hs2.out] at HH
  obtain ⟨v6, rfl, ⟨a6, c6, rfl, hbt, hfr⟩, hsc, hc⟩ := HH
  have HBT := hid hbt
  have hml := hbt.max'
  have HFR := hid (fun x hx => Nat.le_trans (CW.out.trans C3.out).size (hfr x hx))
  have HFR2 := hid (fun x hx => hfr x hx)
  have HG5 := hid (show z8 + 2 ≤ w5.heap.size from by have := HSZ.out; have := C3.out.size; omega)
  have HLT := hid (fun (hne : n.blob ≠ []) => show ∀ x, a6 = some x → x.block < w6.heap.size from fun x hx => by obtain ⟨b, off, e, hh⟩ := HBT.out.at (List.length_pos_iff.2 hne); have := World.block_lt_of_cell? w6 _ (hh 0 (List.length_pos_iff.2 hne)); rw [hx] at e; cases e; exact this)
  clear hbt hfr
  have SC := hid hsc
  replace Z8 := hid (Z8.out.keep hc (by have := HG.out; have := G8.out; simp; omega))
  replace Z10 := hid (Z10.out.keep hc (by have := HG.out; have := G8.out; simp; omega))
  clear hsc hc hR'
  have TB : True := trivial
  by_cases hkw : k0 = 1
  case' neg =>
    have hkw' : ((k0 : Int) != 1) = true := by simp; omega
    have HE := hid (readnote_bad (p := l) (by rw [Hk.out]) (by rw [Ht.out, Hk0.out, Hs1.out]; exact fun hh => hkw hh.1))
    clear hkw
    dsimp only
    repeat (first | (refine wpList_store_blk (o := ⟨none, _, 0, _, _, _⟩) 25 (.tmp 15) (.tmp 31) rfl rfl w6.heap.size [.int .u8 0, .int .u8 0, .int .u32 0, .int .u32 0, .int .u32 0, .int .u32 0, .int .u32 0, .int .u32 0, .int .u8 0, .int .i64 0, .int .u32 0, .int .u32 0, .slice none 0 0] (noteV n (.slice a6 n.blob.length c6)) 25 rfl rfl (blk_alloc w6 [.int .u8 0, .int .u8 0, .int .u32 0, .int .u32 0, .int .u32 0, .int .u32 0, .int .u32 0, .int .u32 0, .int .u8 0, .int .i64 0, .int .u32 0, .int .u32 0, .slice none 0 0] 25) rfl (by kernel_rfl) (by simp [noteV, Value.oneCell']) ?_; intro w7 hZ15 hC15) | (refine wpList_load_blk (o := ⟨some 46, _, _, _, _, _⟩) 25 (.tmp 10) rfl rfl (z8 + 1) [.int .u8 0, .int .u8 0, .int .u32 0, .int .u32 0, .int .u32 0, .int .u32 0, .int .u32 0, .int .u32 0, .int .u8 0, .int .i64 0, .int .u32 0, .int .u32 0, .slice none 0 0] 25 rfl ((Z10.out.below (below_alloc w6 (.cells #[.int .u8 0, .int .u8 0, .int .u32 0, .int .u32 0, .int .u32 0, .int .u32 0, .int .u32 0, .int .u32 0, .int .u8 0, .int .i64 0, .int .u32 0, .int .u32 0, .slice none 0 0] 25))).keep hC15 (by have := SC.out.ge; have := HG.out; simp; omega)) ⟨_, Tryd.underlying25, rfl⟩ (by kernel_rfl) ?_) | (refine wpList_store_blk (o := ⟨none, _, 0, _, _, _⟩) 25 (.tmp 8) (.tmp 46) rfl rfl z8 [.int .u8 0, .int .u8 0, .int .u32 0, .int .u32 0, .int .u32 0, .int .u32 0, .int .u32 0, .int .u32 0, .int .u8 0, .int .i64 0, .int .u32 0, .int .u32 0, .slice none 0 0] [.int .u8 0, .int .u8 0, .int .u32 0, .int .u32 0, .int .u32 0, .int .u32 0, .int .u32 0, .int .u32 0, .int .u8 0, .int .i64 0, .int .u32 0, .int .u32 0, .slice none 0 0] 25 rfl rfl ((Z8.out.below (below_alloc w6 (.cells #[.int .u8 0, .int .u8 0, .int .u32 0, .int .u32 0, .int .u32 0, .int .u32 0, .int .u32 0, .int .u32 0, .int .u8 0, .int .i64 0, .int .u32 0, .int .u32 0, .slice none 0 0] 25))).keep hC15 (by have := SC.out.ge; have := HG.out; simp; omega)) rfl (by kernel_rfl) (by simp [Value.oneCell']) ?_; intro wE hZ hE) | go_step)
    refine bodyPost_ret (v := .tuple #[.agg [.int .u8 0, .int .u8 0, .int .u32 0, .int .u32 0, .int .u32 0, .int .u32 0, .int .u32 0, .int .u32 0, .int .u8 0, .int .i64 0, .int .u32 0, .int .u32 0, .slice none 0 0].toArray, .int .i64 4]) (results_blk2 (fn := Tryd.f45) (p := 8) (q := 9) (ty := 25) rfl _ z8 [.int .u8 0, .int .u8 0, .int .u32 0, .int .u32 0, .int .u32 0, .int .u32 0, .int .u32 0, .int .u32 0, .int .u8 0, .int .i64 0, .int .u32 0, .int .u32 0, .slice none 0 0] 25 (.int .i64 4) rfl rfl hZ ⟨_, Tryd.underlying25, rfl⟩ (by kernel_rfl)) rfl ?_
    rw [HE.out]
    exact ⟨none, 0, rfl, BS.nil _, by simp, ((CW.out.trans SC.out.chg).newer ((Chg.of_below [w6.heap.size] (below_alloc w6 (.cells #[.int .u8 0, .int .u8 0, .int .u32 0, .int .u32 0, .int .u32 0, .int .u32 0, .int .u32 0, .int .u32 0, .int .u8 0, .int .i64 0, .int .u32 0, .int .u32 0, .slice none 0 0] 25))).trans hC15) (by have := SC.out.ge; have := GL.out; have := (CW.out.trans SC.out.chg).size; have := HSZ.out; have := H8.out; have := CW.out.size; simp; omega)).newer hE (by have := H8.out; simp; omega)⟩
  have hkw' : ((k0 : Int) != 1) = false := by simp; omega
  have HKW := hid hkw
  clear hkw
  dsimp only
  repeat (first | (refine wpList_store_blk (o := ⟨none, _, 0, _, _, _⟩) 25 (.tmp 15) (.tmp 31) rfl rfl w6.heap.size [.int .u8 0, .int .u8 0, .int .u32 0, .int .u32 0, .int .u32 0, .int .u32 0, .int .u32 0, .int .u32 0, .int .u8 0, .int .i64 0, .int .u32 0, .int .u32 0, .slice none 0 0] (noteV n (.slice a6 n.blob.length c6)) 25 rfl rfl (blk_alloc w6 [.int .u8 0, .int .u8 0, .int .u32 0, .int .u32 0, .int .u32 0, .int .u32 0, .int .u32 0, .int .u32 0, .int .u8 0, .int .i64 0, .int .u32 0, .int .u32 0, .slice none 0 0] 25) rfl (by kernel_rfl) (by simp [noteV, Value.oneCell']) ?_; intro w7 hZ15 hC15) | go_step)
  have SC7 := hid (SC.out.other ((Chg.of_below [w6.heap.size] (below_alloc w6 (.cells #[.int .u8 0, .int .u8 0, .int .u32 0, .int .u32 0, .int .u32 0, .int .u32 0, .int .u32 0, .int .u32 0, .int .u8 0, .int .i64 0, .int .u32 0, .int .u32 0, .slice none 0 0] 25))).trans hC15) (by have := SC.out.ge; simp; omega))
  replace Z8 := hid ((Z8.out.below (below_alloc w6 (.cells #[.int .u8 0, .int .u8 0, .int .u32 0, .int .u32 0, .int .u32 0, .int .u32 0, .int .u32 0, .int .u32 0, .int .u8 0, .int .i64 0, .int .u32 0, .int .u32 0, .slice none 0 0] 25))).keep hC15 (by have := SC.out.ge; have := HG.out; simp; omega))
  replace Z10 := hid ((Z10.out.below (below_alloc w6 (.cells #[.int .u8 0, .int .u8 0, .int .u32 0, .int .u32 0, .int .u32 0, .int .u32 0, .int .u32 0, .int .u32 0, .int .u8 0, .int .i64 0, .int .u32 0, .int .u32 0, .slice none 0 0] 25))).keep hC15 (by have := SC.out.ge; have := HG.out; simp; omega))
  have Z15 := hid hZ15
  have C7 := hid (CW.out.trans SC7.out.chg)
  replace HBT := hid (bs_keep (HBT.out.below (below_alloc w6 (.cells #[.int .u8 0, .int .u8 0, .int .u32 0, .int .u32 0, .int .u32 0, .int .u32 0, .int .u32 0, .int .u32 0, .int .u8 0, .int .i64 0, .int .u32 0, .int .u32 0, .slice none 0 0] 25))) hC15 (by
      by_cases h0 : n.blob = []
      · exact .inl h0
      · exact .inr fun x hx hm => by have := HLT.out h0 x hx; simp at hm; omega))
  have HG15 := hid (show z8 + 2 ≤ w6.heap.size from by have := SC.out.ge; have := HG.out; omega)
  obtain ⟨z15, hz15⟩ : ∃ z15, w6.heap.size = z15 := ⟨_, rfl⟩
  rw [hz15] at Z15 HG15
  have HZ15 := hid hz15
  clear hZ15 hC15
  refine (end_calls w7 _ g s2.1 s2.2 SC7.out.eye).mono ?_
  rintro e w' ⟨rfl, rfl⟩
  rw [hz15]
  clear hz15
  by_cases hP : s2.2 = true ∨ 0 < s2.1.length
  case' pos =>
    rw [if_pos hP]
    have HE := hid (readnote_bad (p := l) (by rw [Hk.out]) (by rw [Ht.out, Hs1.out, Hs2.out]; rintro ⟨_, hh, _⟩; rw [hh] at hP; simp at hP))
    clear hP
    dsimp only
    repeat (first | (refine wpList_load_blk (o := ⟨some 46, _, _, _, _, _⟩) 25 (.tmp 10) rfl rfl (z8 + 1) [.int .u8 0, .int .u8 0, .int .u32 0, .int .u32 0, .int .u32 0, .int .u32 0, .int .u32 0, .int .u32 0, .int .u8 0, .int .i64 0, .int .u32 0, .int .u32 0, .slice none 0 0] 25 rfl Z10.out ⟨_, Tryd.underlying25, rfl⟩ (by kernel_rfl) ?_) | (refine wpList_store_blk (o := ⟨none, _, 0, _, _, _⟩) 25 (.tmp 8) (.tmp 46) rfl rfl z8 [.int .u8 0, .int .u8 0, .int .u32 0, .int .u32 0, .int .u32 0, .int .u32 0, .int .u32 0, .int .u32 0, .int .u8 0, .int .i64 0, .int .u32 0, .int .u32 0, .slice none 0 0] [.int .u8 0, .int .u8 0, .int .u32 0, .int .u32 0, .int .u32 0, .int .u32 0, .int .u32 0, .int .u32 0, .int .u8 0, .int .i64 0, .int .u32 0, .int .u32 0, .slice none 0 0] 25 rfl rfl Z8.out rfl (by kernel_rfl) (by simp [Value.oneCell']) ?_; intro wE hZ hE) | go_step)
    refine bodyPost_ret (v := .tuple #[.agg [.int .u8 0, .int .u8 0, .int .u32 0, .int .u32 0, .int .u32 0, .int .u32 0, .int .u32 0, .int .u32 0, .int .u8 0, .int .i64 0, .int .u32 0, .int .u32 0, .slice none 0 0].toArray, .int .i64 4]) (results_blk2 (fn := Tryd.f45) (p := 8) (q := 9) (ty := 25) rfl _ z8 [.int .u8 0, .int .u8 0, .int .u32 0, .int .u32 0, .int .u32 0, .int .u32 0, .int .u32 0, .int .u32 0, .int .u8 0, .int .i64 0, .int .u32 0, .int .u32 0, .slice none 0 0] 25 (.int .i64 4) rfl rfl hZ ⟨_, Tryd.underlying25, rfl⟩ (by kernel_rfl)) rfl ?_
    rw [HE.out]
    exact ⟨none, 0, rfl, BS.nil _, by simp, C7.out.newer hE (by have := H8.out; simp; omega)⟩
  rw [if_neg hP]
  have HP := hid (show s2 = ([], false) from by
    obtain ⟨x, y⟩ := s2
    simp only [not_or, Bool.not_eq_true, Nat.not_lt, Nat.le_zero] at hP
    rw [List.eq_nil_of_length_eq_zero hP.2, hP.1])
  clear hP
  dsimp only
  repeat (first | (refine wpList_load_blk (o := ⟨some 42, _, _, _, _, _⟩) 25 (.tmp 15) rfl rfl z15 (noteV n (.slice a6 n.blob.length c6)) 25 rfl Z15.out ⟨_, Tryd.underlying25, rfl⟩ (by kernel_rfl) ?_) | go_step)
  refine (noteRead2_calls n a6 c6 gs _ gr w7 Hok.out hml SC7.out.scan).mono ?_
  rintro e w8 ⟨rfl, hb⟩
  replace Z8 := hid (Z8.out.below hb)
  replace Z10 := hid (Z10.out.below hb)
  replace Z15 := hid (Z15.out.below hb)
  replace C7 := hid (C7.out.trans (Chg.of_below _ hb))
  replace HBT := hid (HBT.out.below hb)
  clear hb
  rcases Bool.eq_false_or_eq_true (!gr && formN n) with hF | hF
  case' inr =>
    have HE := hid (readnote_bad (p := l) (by rw [Hk.out]) (by rw [Ht.out, Hs1.out, Hgr.out, Hn.out]; rintro ⟨_, _, h1, h2⟩; rw [h1, h2] at hF; simp at hF))
    rw [hF]
    clear hF
    dsimp only
    repeat (first | (refine wpList_load_blk (o := ⟨some 46, _, _, _, _, _⟩) 25 (.tmp 10) rfl rfl (z8 + 1) [.int .u8 0, .int .u8 0, .int .u32 0, .int .u32 0, .int .u32 0, .int .u32 0, .int .u32 0, .int .u32 0, .int .u8 0, .int .i64 0, .int .u32 0, .int .u32 0, .slice none 0 0] 25 rfl Z10.out ⟨_, Tryd.underlying25, rfl⟩ (by kernel_rfl) ?_) | (refine wpList_store_blk (o := ⟨none, _, 0, _, _, _⟩) 25 (.tmp 8) (.tmp 46) rfl rfl z8 [.int .u8 0, .int .u8 0, .int .u32 0, .int .u32 0, .int .u32 0, .int .u32 0, .int .u32 0, .int .u32 0, .int .u8 0, .int .i64 0, .int .u32 0, .int .u32 0, .slice none 0 0] [.int .u8 0, .int .u8 0, .int .u32 0, .int .u32 0, .int .u32 0, .int .u32 0, .int .u32 0, .int .u32 0, .int .u8 0, .int .i64 0, .int .u32 0, .int .u32 0, .slice none 0 0] 25 rfl rfl Z8.out rfl (by kernel_rfl) (by simp [Value.oneCell']) ?_; intro wE hZ hE) | go_step)
    refine bodyPost_ret (v := .tuple #[.agg [.int .u8 0, .int .u8 0, .int .u32 0, .int .u32 0, .int .u32 0, .int .u32 0, .int .u32 0, .int .u32 0, .int .u8 0, .int .i64 0, .int .u32 0, .int .u32 0, .slice none 0 0].toArray, .int .i64 4]) (results_blk2 (fn := Tryd.f45) (p := 8) (q := 9) (ty := 25) rfl _ z8 [.int .u8 0, .int .u8 0, .int .u32 0, .int .u32 0, .int .u32 0, .int .u32 0, .int .u32 0, .int .u32 0, .int .u8 0, .int .i64 0, .int .u32 0, .int .u32 0, .slice none 0 0] 25 (.int .i64 4) rfl rfl hZ ⟨_, Tryd.underlying25, rfl⟩ (by kernel_rfl)) rfl ?_
    rw [HE.out]
    exact ⟨none, 0, rfl, BS.nil _, by simp, C7.out.newer hE (by have := H8.out; simp; omega)⟩
  have HE := hid (readnote_good (p := l) (by rw [Hk.out]) (by rw [Ht.out, Hk0.out]; exact HKW.out) (by rw [Ht.out, Hs1.out, Hs2.out]; exact HP.out) (by rw [Ht.out, Hs1.out, Hgr.out]; simp at hF; exact hF.1) (by rw [Ht.out, Hs1.out, Hn.out]; simp at hF; exact hF.2))
  rw [hF]
  clear hF
  dsimp only
  repeat (first | (refine wpList_load_blk (o := ⟨some 47, _, _, _, _, _⟩) 25 (.tmp 15) rfl rfl z15 (noteV n (.slice a6 n.blob.length c6)) 25 rfl Z15.out ⟨_, Tryd.underlying25, rfl⟩ (by kernel_rfl) ?_) | (refine wpList_store_blk (o := ⟨none, _, 0, _, _, _⟩) 25 (.tmp 8) (.tmp 47) rfl rfl z8 [.int .u8 0, .int .u8 0, .int .u32 0, .int .u32 0, .int .u32 0, .int .u32 0, .int .u32 0, .int .u32 0, .int .u8 0, .int .i64 0, .int .u32 0, .int .u32 0, .slice none 0 0] (noteV n (.slice a6 n.blob.length c6)) 25 rfl rfl Z8.out rfl (by kernel_rfl) (by simp [noteV, Value.oneCell']) ?_; intro wE hZ hE) | go_step)
  refine bodyPost_ret (v := .tuple #[.agg (noteV n (.slice a6 n.blob.length c6)).toArray, .int .i64 0]) (results_blk2 (fn := Tryd.f45) (p := 8) (q := 9) (ty := 25) rfl _ z8 (noteV n (.slice a6 n.blob.length c6)) 25 (.int .i64 0) rfl rfl hZ ⟨_, Tryd.underlying25, rfl⟩ (by kernel_rfl)) rfl ?_
  rw [HE.out, Ht.out, Hs1.out, Hn.out]
  exact ⟨a6, c6, rfl, bs_keep HBT.out hE (.inr fun x hx hm => by have := HFR2.out x hx; have := HG5.out; simp at hm; omega), fun x hx => HFR.out x hx, C7.out.newer hE (by have := H8.out; simp; omega)⟩

set_option maxRecDepth 100000 in
set_option maxHeartbeats 2000000 in
theorem readnote_calls (a : Option Addr) (c : Nat) (l : List UInt8) (w : World) (h : BS w a c l) (hl : l.length ≤ 100000) (hq : Laid w) :
    Calls Tryd.prog 17 #[.slice a l.length c] w (Gotnote [] w (readnoteL l)) := by
  have hb1 := below_alloc w (.cells #[.int .u8 0, .int .u8 0, .int .u32 0, .int .u32 0, .int .u32 0, .int .u32 0, .int .u32 0, .int .u32 0, .int .u8 0, .int .i64 0, .int .u32 0, .int .u32 0, .slice none 0 0] 25)
  have hb2 := below_alloc (w.alloc (.cells #[.int .u8 0, .int .u8 0, .int .u32 0, .int .u32 0, .int .u32 0, .int .u32 0, .int .u32 0, .int .u32 0, .int .u8 0, .int .i64 0, .int .u32 0, .int .u32 0, .slice none 0 0] 25)) (.cells #[.pointer none, .bool false] 86)
  have hb := below_step hb1 hb2
  have hz : (w.alloc (.cells #[.int .u8 0, .int .u8 0, .int .u32 0, .int .u32 0, .int .u32 0, .int .u32 0, .int .u32 0, .int .u32 0, .int .u8 0, .int .i64 0, .int .u32 0, .int .u32 0, .slice none 0 0] 25)).heap.size = w.heap.size + 1 := by simp
  have hS := blk_alloc (w.alloc (.cells #[.int .u8 0, .int .u8 0, .int .u32 0, .int .u32 0, .int .u32 0, .int .u32 0, .int .u32 0, .int .u32 0, .int .u8 0, .int .i64 0, .int .u32 0, .int .u32 0, .slice none 0 0] 25)) [.pointer none, .bool false] 86
  rw [hz] at hS
  have hZ := (blk_alloc w [.int .u8 0, .int .u8 0, .int .u32 0, .int .u32 0, .int .u32 0, .int .u32 0, .int .u32 0, .int .u32 0, .int .u8 0, .int .i64 0, .int .u32 0, .int .u32 0, .slice none 0 0] 25).below hb2
  have hO := noteOpen_calls a c l (w.heap.size + 1) (.pointer none) _ (h.below hb) hl (hq.below hb hq.1) hS
  obtain ⟨r, hr⟩ : ∃ r, readnoteL l = r := ⟨_, rfl⟩
  rw [hr] at hO ⊢
  have HO := hid hO
  have HZ := hid hZ
  have HB := hid hb
  clear hb1 hb2 hb hz hS hZ hO hr h hl hq
  go_enter Tryd.func17, Tryd.ntmps17
  go_wp2_with fail
  refine HO.out.mono ?_
  rintro e w1 ⟨a1, c1, rfl, hbt, hfr, hch⟩
  have HBT := hid hbt
  have HFR := hid hfr
  clear hbt hfr
  have Z1 := hid (HZ.out.keep hch (by simp))
  have C1 := hid (Chg.newer (Chg.of_below [] HB.out) hch (by simp))
  clear hch HO HZ
  dsimp only
  repeat (first | (refine wpList_store_blk (o := ⟨none, _, 0, _, _, _⟩) 25 (.tmp 2) (.tmp 9) rfl rfl w.heap.size [.int .u8 0, .int .u8 0, .int .u32 0, .int .u32 0, .int .u32 0, .int .u32 0, .int .u32 0, .int .u32 0, .int .u8 0, .int .i64 0, .int .u32 0, .int .u32 0, .slice none 0 0] (noteV r.1 (.slice a1 r.1.blob.length c1)) 25 rfl rfl Z1.out rfl (by kernel_rfl) (by simp [noteV, Value.oneCell']) ?_; intro wE hZ hE) | go_step)
  refine bodyPost_ret (v := .tuple #[.agg (noteV r.1 (.slice a1 r.1.blob.length c1)).toArray, .int .i64 r.2]) (results_blk2 (fn := Tryd.f17) (p := 2) (q := 3) (ty := 25) rfl _ w.heap.size (noteV r.1 (.slice a1 r.1.blob.length c1)) 25 (.int .i64 r.2) rfl rfl hZ ⟨_, Tryd.underlying25, rfl⟩ (by kernel_rfl)) rfl ?_
  exact ⟨a1, c1, rfl, cs_chg HBT.out hE (fun x hx hm => by have := HFR.out x hx; simp at hm this; omega), fun x hx => Nat.le_trans HB.out.size (HFR.out x hx), C1.out.newer hE (by simp)⟩

end Go.Proofs.YtmmcmldcbdaooaaDoor
