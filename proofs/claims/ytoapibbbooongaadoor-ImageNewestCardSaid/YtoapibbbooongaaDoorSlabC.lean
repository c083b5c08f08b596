/- The walk of a slab's write. -/
import Derived.Test.YtoapibbbooongaaDoorSlabB
import Derived.Test.YtoapibbbooongaaDoorArr
import Derived.Deep.CutBlock
import Derived.Laws.CopyOwn
import Derived.Deep.RegionHeld3
import Derived.Deep.AppendLies
import Derived.Test.YtoapibbbooongaaDoorDraws
namespace Go.Proofs.YtoapibbbooongaaDoor
open Go.RowKit Go.Quad _root_.Quad.Slab

def zeros : List UInt8 := List.replicate 128 0
theorem wrV_length (x : Nat × List UInt8) (h : x.2.length = 128) : (wrV x).length = 129 := by simp [wrV, h]
theorem wrV_one (x : Nat × List UInt8) : ∀ u ∈ wrV x, u.oneCell' = true := by
  intro u hu
  rcases List.mem_cons.1 hu with rfl | hu
  · rfl
  · exact oneCell_u8v _ u hu
def zwrite : Array Value := (wrV (0, zeros)).toArray
theorem info_write : (Tryd.prog.info? 116).map (fun i => (i.zero, i.size)) = some (some (.agg zwrite), 129) := by kernel_rfl
theorem info_write3 : (Tryd.prog.info? 116).map (fun i => (i.zero, i.size, i.bytes)) = some (some (.agg zwrite), 129, 136) := by kernel_rfl
theorem built_write (i : Nat) : Tryd.prog.built 116 [(0, .int .i64 (i : Int))] = some (wrV (i, zeros)).toArray := by kernel_rfl
theorem size_write : (Tryd.prog.info? 116).map (·.size) = some 129 := by kernel_rfl

theorem under_write : ∃ d, Tryd.prog.underlying 116 = some d ∧ d.isRow = true := ⟨_, Tryd.underlying116, rfl⟩

theorem run_way (w : World) (g i : Nat) (v : Value) (h : w.cell? ⟨g, i, none⟩ = some v) : (Instr.loadAt 87 (.pointer (some ⟨g, i, none⟩))).run Tryd.prog w = .ok v w := by go_simp

theorem copy_src {w : World} {a : Option Addr} {cap : Nat} {t : List UInt8} (h : BS w a cap t) (h0 : 0 < (t.map u8v).length) : ∃ ad, a = some ad ∧ ∀ j v, (t.map u8v)[j]? = some v → w.cell? (ad.add j) = some v := by
  obtain ⟨b, off, e, hc⟩ := CS.at h h0
  refine ⟨_, e, fun j v hv => ?_⟩
  rw [Addr.add_mid]
  exact hc j v hv

theorem splice_write (k : Nat) (t : List UInt8) (h : t.length ≤ 128) : splice (wrV (k, zeros)) 1 (t.map u8v) = wrV (k, pad t) := by
  unfold splice wrV pad zeros
  simp only [List.take_succ_cons, List.take_zero, List.length_map, List.map_append, List.map_replicate]
  rw [Nat.add_comm 1 t.length, List.drop_succ_cons, List.drop_replicate]
  rfl

/-- what a call leaves that writes to a slab -/
def SlabTo (w : World) (B g d : Nat) (wv : Value) (s' : Sl) (r : Nat) (e : Ending) (w' : World) : Prop :=
  ∃ wv', e = .returned (.int .i64 (r : Int)) ∧ IsSlab w' B g d wv' s' ∧ Chg (slS g d wv) w w' ∧ (∀ k, wv'.ownBlock = some k → k ∈ slS g d wv ∨ w.heap.size ≤ k)

theorem hasL_short {s : Sl} {i : Int} {n : Nat} (h : hasL s i n = 0) : n ≤ 128 := by
  unfold hasL at h
  split at h
  · omega
  · split at h <;> omega

theorem hasL_in {s : Sl} {i : Int} {n : Nat} (h : hasL s i n = 0) : 0 ≤ i ∧ i < s.done.length := by
  unfold hasL at h
  split at h
  · omega
  · rename_i hh
    simp only [not_or, Int.not_lt, Int.not_le] at hh
    exact hh

theorem run_way_store (w : World) (g i : Nat) (old : Value) (a : Option Addr) (n c : Nat) (h : w.cell? ⟨g, i, none⟩ = some old) (hf : w.frozen? ⟨g, i, none⟩ = false) :
    (Instr.storeAt 87 (.pointer (some ⟨g, i, none⟩)) (.slice a n c)).run Tryd.prog w = .ok () (w.setCell ⟨g, i, none⟩ (.slice a n c)) := by go_simp

theorem Blk.range {w : World} {g : Nat} {cs : List Value} {t : TypeId} (h : Blk w g cs t) : w.rangeAt g 0 cs := fun j v hv => by
  rw [Nat.zero_add, h.cell]; exact hv

theorem ok_write {s : Sl} {k : Nat} {t : List UInt8} (h : Ok s) (hs : s.steps < 1000000) (hw : s.way.length < 1000000) (hk : k < s.done.length) (ht : t.length ≤ 128) : Ok { stepL s with way := s.way ++ [(k, pad t)] } := by
  have h' := ok_step h hs
  refine ⟨h'.sec, ?_, h'.small, by simp; omega, h'.ssmall, h'.asmall⟩
  intro x hx
  rcases List.mem_append.1 hx with hx | hx
  · exact h'.wsec x hx
  · rw [List.mem_singleton] at hx
    subst hx
    exact ⟨pad_length ht, hk⟩

set_option maxRecDepth 20000 in
set_option maxHeartbeats 1000000 in
theorem write_calls (w : World) (B g d : Nat) (wv : Value) (s : Sl) (i : Int) (a : Option Addr) (cap : Nat) (t : List UInt8) (h : IsSlab w B g d wv s) (hi : -9223372036854775808 ≤ i ∧ i ≤ 9223372036854775807) (ht : BS w a cap t) (hs : s.steps < 1000000) (hw : s.way.length < 1000000) (hoff : t = [] ∨ ∀ x, a = some x → x.block ∉ slS g d wv) (h0 : hasL s i t.length = 0) :
    Calls Tryd.prog 17 #[.pointer (some ⟨g, 0, none⟩), .int .i64 i, .slice a t.length cap] w (SlabTo w B g d wv (writeL s i t).1 (writeL s i t).2) := by
  have hlt : t.length ≤ 128 := hasL_short h0
  have hm := ht.max'
  have H := hid h
  have T := hid ht
  have C := has_calls w B g d wv s i t.length h hi (by omega)
  rw [h0] at C
  have Cx := hid C
  have hin := hasL_in h0
  obtain ⟨k, rfl⟩ : ∃ k : Nat, i = k := ⟨i.toNat, by omega⟩
  have hwl : writeL s (k : Int) t = ({ stepL s with way := s.way ++ [(k, pad t)] }, if (stepL s).off then 13 else 0) := by
    unfold writeL
    rw [if_neg (by rw [h0]; simp), Int.toNat_natCast]
  have hokw := hid (ok_write h.ok hs hw (k := k) (by omega) hlt)
  have Hwl := hid hwl
  have Hw := hid hw
  have Hs := hid hs
  have Hoff := hid hoff
  clear h ht C h0 hwl hw hin hoff
  go_enter Tryd.func17, Tryd.ntmps17
  go_wp2_with fail
  refine Cx.out.mono ?_
  rintro e w' ⟨rfl, rfl⟩
  go_wp2_with fail
  refine (step_calls _ _ _ _ _ _ H.out Hs.out).mono ?_
  rintro e w1 ⟨rfl, h1, hc1⟩
  go_upto_region 6 with (first | (refine wpListQ_build 116 #[(0, .tmp 20)] rfl rfl (wrV (k, zeros)).toArray ?_ ?_; exact (by simpa [go_sem] using built_write k)) | (refine wpListQ_alloc 116 rfl rfl _ _ info_write ?_) | (refine wpListQ_store_new rfl 116 (.tmp 9) (.tmp 21) rfl zwrite (wrV (k, zeros)).toArray rfl rfl (by rw [size_write]; simp [wrV, zeros]) (by simp [zwrite, wrV, zeros]) (all_oneCell_toArray (wrV_one _)) ?_))
  have hT1 : BS (w1.alloc (.cells (wrV (k, zeros)).toArray 116)) a cap t := by
    refine BS.below (w := w1) (bs_keep T.out hc1 (Hoff.out.imp id fun h x hx hm => ?_)) (below_alloc w1 _)
    simp only [List.mem_singleton] at hm
    exact h x hx (by rw [hm]; simp [slS])
  have hg1 : (w1.alloc (.cells (wrV (k, zeros)).toArray 116)).heap[w1.heap.size]? = some (.cells (wrV (k, zeros)).toArray 116 (0, 0)) := heap_alloc_new w1 _
  have HT1 := hid hT1
  have Hg1 := hid hg1
  have Hlt := hid hlt
  have H1 := hid h1
  clear hT1 hg1 h1
  go_upto_region 7 with ((with_reducible refine wpList_copy_splice rfl (.tmp 23) (.tmp 24) 33 33 rfl 5 under_bytes (by kernel_rfl) (some ⟨w1.heap.size, 1, none⟩) a 128 128 t.length cap rfl rfl w1.heap.size 1 _ 116 Hg1.out (t.map u8v) (by have := Hlt.out; rw [List.length_map]; exact (Nat.min_eq_left this).symm) (fun h0 => ⟨rfl, copy_src HT1.out h0⟩) (by have := Hlt.out; simp [wrV, zeros]; omega) (oneCell_u8v _) w1.heap.size w1 (below_alloc w1 _) (Nat.le_refl _) ?_); intro w6 hH hb6)
  have hlen : (wrV (k, pad t)).length = 129 := wrV_length _ (pad_length Hlt.out)
  have hH' : w6.heap[w1.heap.size]? = some (.cells (wrV (k, pad t)).toArray 116 (0, 0)) := by
    have := hH.out
    rw [splice_write k t Hlt.out] at this
    exact this
  have hrow : w6.rangeAt w1.heap.size 0 (wrV (k, pad t)) := fun j v hv => by
    rw [Nat.zero_add, cell_of_row w6 w1.heap.size j _ _ _ hH']; simpa using hv
  have H6 := H1.out.below hb6
  have Hrow := hid hH'
  have H6 := hid (H1.out.below hb6)
  have Hb6 := hid hb6
  have Hlen := hid hlen
  have hwb := World.ownsRow.lt H1.out.way
  have hne := H1.out.ne
  have hlt1 := H1.out.own.lt
  have hlt2 := H1.out.don.lt
  have hsz6 : w1.heap.size < w6.heap.size := (Array.getElem?_eq_some_iff.1 Hrow.out).1
  clear hrow hH' hlen hH hb6
  refine wp_region_chg 8 7 wv.ownBlock.toList (fun i v w' => match i with
    | 0 | 1 | 2 | 8 => v = .pointer (some ⟨g, 0, none⟩)
    | 3 | 9 => v = .pointer (some ⟨g, 1, none⟩)
    | 4 => v = wv
    | 5 => v = .agg (wrV (k, pad t)).toArray
    | 6 => ∃ b, v = .slice (some ⟨b, 0, none⟩) 1 1 ∧ Blk w' b (wrV (k, pad t)) 116 ∧ w6.heap.size ≤ b
    | 7 => (∃ a c, v = .slice a (s.way.length + 1) c) ∧ w'.ownsRow B 116 129 v (s.way.length + 1) (s.way.flatMap wrV ++ wrV (k, pad t)) ∧ (v.ownBlock = wv.ownBlock ∨ ∃ b, v.ownBlock = some b ∧ w6.heap.size ≤ b)
    | _ => True) (by kernel_rfl) (by kernel_rfl) (by kernel_rfl) ?_ ?_ ?_ ?_
  · intro j v w2 w3 hR hb
    match j, hR with
    | 0, hR | 1, hR | 2, hR | 3, hR | 4, hR | 5, hR | 8, hR | 9, hR => exact hR
    | 6, ⟨b, e, hB, hl⟩ => exact ⟨b, e, hB.below hb, hl⟩
    | 7, ⟨h0, hR, h1⟩ => exact ⟨h0, ownsRow_chg hR (Chg.of_below [] hb) (by simp), h1⟩
    | _ + 10, _ => trivial
  · intro j v w2 w3 hne hR hb
    match j, hR with
    | 0, hR | 1, hR | 2, hR | 3, hR | 4, hR | 5, hR | 8, hR | 9, hR => exact hR
    | 6, ⟨b, e, hB, hl⟩ => exact ⟨b, e, hB.keep hb (fun hm => by have := hwb b (by simpa using hm); omega), hl⟩
    | 7, _ => exact (hne rfl).elim
    | _ + 10, _ => trivial
  · refine ⟨?_, ?_, ?_, ?_, ?_, ?_, ?_, ?_, ?_, ?_, trivial⟩
    all_goals intro ρ w2 hE hc hg hf
    · intro h0; exact opOk_move _ rfl ⟨Below.refl _ _, h0⟩
    · intro h0; exact opOk_move _ rfl ⟨Below.refl _ _, h0⟩
    · intro (h0 : ρ (.tmp 27) = .pointer (some ⟨g, 0, none⟩))
      exact opOk_run (v := .pointer (some ⟨g, 0, none⟩)) (w' := w2) (by go_simp) ⟨Below.refl _ _, rfl⟩
    · intro (h0 : ρ (.tmp 28) = .pointer (some ⟨g, 0, none⟩))
      exact opOk_run (v := .pointer (some ⟨g, 1, none⟩)) (w' := w2) (by go_simp) ⟨Below.refl _ _, rfl⟩
    · intro (h0 : ρ (.tmp 29) = .pointer (some ⟨g, 1, none⟩))
      have hE : Chg wv.ownBlock.toList w6.drew w2 := hE
      have c := ((H6.out.own.below (below_drew _)).keep hE (fun hm => hne.2.1 (by simpa using hm))).get 1 rfl
      exact opOk_load _ _ rfl _ _ h0 (run_way _ _ _ _ c) ⟨Below.refl _ _, rfl⟩
    · intro h0
      have hE : Chg wv.ownBlock.toList w6.drew w2 := hE
      have hB : Blk w2 w1.heap.size (wrV (k, pad t)) 116 := (Blk.below (w := w6) Hrow.out (below_drew _)).keep hE (fun hm => by have := hwb _ (by simpa using hm); omega)
      exact opOk_load_row _ _ rfl w1.heap.size 0 _ h0 (Blk.range hB) under_write (by rw [Hlen.out]; exact size_write) ⟨Below.refl _ _, rfl⟩
    · intro (h0 : ρ (.tmp 31) = .agg (wrV (k, pad t)).toArray)
      have hE : Chg wv.ownBlock.toList w6.drew w2 := hE
      have hr := run_buildOne (P := Tryd.prog) w2 87 116 (wrV (k, pad t)).toArray zwrite 129 under_writes info_write (by decide) (by simpa using Hlen.out)
      exact opOk_build1 _ _ rfl _ _ h0 hr ⟨below_alloc w2 _, w2.heap.size, rfl, blk_alloc w2 _ _, hE.size⟩
    · intro h0 ⟨b, h1, hB, hl⟩
      have hE : Below w6.drew.heap.size w6.drew w2 := hE
      have hown : w2.ownsRow B 116 129 wv s.way.length (s.way.flatMap wrV) := ownsRow_chg (ownsRow_chg H6.out.way (Chg.of_below [] (below_drew _)) (by simp)) (Chg.of_below [] hE) (by simp)
      refine opOk_append _ _ _ rfl B 116 (.agg zwrite) 129 136 info_write3 (by simp [zwrite, wrV, zeros, Value.cells]) (by decide) under_writes wv _ _ h0 hown ⟨b, 0, none⟩ 1 1 (wrV (k, pad t)) h1 (by rw [Hlen.out])
        (fun j u hu => by rw [Addr.add_mid]; exact Blk.range hB j u hu) (wrV_one _) (by have := Hw.out; unfold maxLen; omega) (by have := Hw.out; omega) (by have := H6.out.ge; have := hE.size; have h2 : w6.drew.heap.size = w6.heap.size := rfl; omega) ?_
      intro v' w3 h2 h3 h4
      refine ⟨chg_grownBy h3, (by obtain ⟨a, c, e, _⟩ := ownsRow_cs h2; exact ⟨a, c, e⟩), h2, h4.imp id fun h => ⟨_, h, hE.size⟩⟩
    · intro (h0 : ρ (.tmp 26) = .pointer (some ⟨g, 0, none⟩))
      exact opOk_run (v := .pointer (some ⟨g, 0, none⟩)) (w' := w2) (by go_simp) ⟨Below.refl _ _, rfl⟩
    · intro (h0 : ρ (.tmp 34) = .pointer (some ⟨g, 0, none⟩))
      exact opOk_run (v := .pointer (some ⟨g, 1, none⟩)) (w' := w2) (by go_simp) ⟨Below.refl _ _, rfl⟩
  · intro w2 hE
    rintro _ rfl _ rfl _ rfl _ rfl wv rfl _ rfl _ ⟨b, rfl, hB, hl⟩ _ ⟨⟨a33, c33, rfl⟩, h33, h33'⟩ _ rfl _ rfl
    have hown2 : Blk w2 g _ _ := (H6.out.own.below (below_drew _)).keep hE (fun hm => hne.2.1 (by simpa using hm))
    have hr := run_way_store w2 g 1 _ a33 (s.way.length + 1) c33 (hown2.get 1 rfl) (hown2.free 1)
    simp only [PutLast, Act.put, List.setIfInBounds_toArray, List.set_cons_succ, List.set_cons_zero]
    refine opOk_store _ _ _ rfl (.pointer (some ⟨g, 1, none⟩)) (.slice a33 (s.way.length + 1) c33) rfl rfl hr ?_
    have hB := hown2.set 1 (.slice a33 (s.way.length + 1) c33)
    have hch : Chg [g] w2 (w2.setCell ⟨g, 1, none⟩ (.slice a33 (s.way.length + 1) c33)) := chg_setCell w2 g 1 _
    have hbig : ∀ q, (Value.slice a33 (s.way.length + 1) c33).ownBlock = some q → q ∈ slS g d wv ∨ w6.heap.size ≤ q := by
      intro q hq
      rcases h33' with h | ⟨b', h, hl'⟩
      · rw [h] at hq; exact .inl (by simp [slS, hq])
      · rw [h] at hq; cases hq; exact .inr hl'
    have hne3 : (Value.slice a33 (s.way.length + 1) c33).ownBlock ≠ some g ∧ (Value.slice a33 (s.way.length + 1) c33).ownBlock ≠ some d := by
      rcases h33' with h | ⟨b', h, hl'⟩
      · rw [h]; exact hne.2
      · rw [h]; simp; omega
    simp only [List.set_cons_succ, List.set_cons_zero] at hB
    have hdon : Blk w2 d (s.done.flatMap bV) 114 := (H6.out.don.below (below_drew _)).keep hE (fun hm => hne.2.2 (by simpa using hm))
    have hsl : IsSlab (w2.setCell ⟨g, 1, none⟩ (.slice a33 (s.way.length + 1) c33)) B g d (.slice a33 (s.way.length + 1) c33) { stepL s with way := s.way ++ [(k, pad t)] } := by
      refine ⟨hB, hdon.keep hch (by simp; exact fun e => hne.1 e.symm), ?_, hokw.out, H6.out.ge, ⟨hne.1, hne3⟩⟩
      dsimp only
      rw [List.length_append, List.flatMap_append, List.flatMap_singleton]
      exact ownsRow_chg h33 hch (fun q hq hm => by simp at hm; subst hm; exact hne3.1 hq)
    have hfoot : Chg (slS g d wv) w (w2.setCell ⟨g, 1, none⟩ (.slice a33 (s.way.length + 1) c33)) := by
      refine (hc1.mono (by simp [slS])).trans (((Chg.of_below _ Hb6.out).trans ?_).trans (hch.mono (by simp [slS])))
      exact (Chg.of_below _ (below_drew w6)).trans (hE.mono fun q hq => .inl (List.mem_cons_of_mem _ (List.mem_cons_of_mem _ hq)))
    have Hfin := hid (⟨hsl, hfoot, fun q hq => (hbig q hq).imp id fun h => by have := hc1.size; omega⟩ : IsSlab (w2.setCell ⟨g, 1, none⟩ (.slice a33 (s.way.length + 1) c33)) B g d (.slice a33 (s.way.length + 1) c33) { stepL s with way := s.way ++ [(k, pad t)] } ∧ Chg (slS g d wv) w (w2.setCell ⟨g, 1, none⟩ (.slice a33 (s.way.length + 1) c33)) ∧ ∀ q, (Value.slice a33 (s.way.length + 1) c33).ownBlock = some q → q ∈ slS g d wv ∨ w.heap.size ≤ q)
    clear hr h33 hown2 hch hbig hne3 hdon hsl hfoot h33' hwb hne hE hB
    obtain ⟨o, ho⟩ : ∃ o, (stepL s).off = o := ⟨_, rfl⟩
    have Hwl2 := hid (show writeL s (k : Int) t = ({ stepL s with way := s.way ++ [(k, pad t)] }, if o then 13 else 0) from Hwl.out.trans (by rw [← ho]))
    rw [ho]
    clear ho
    cases o
    all_goals
      go_wp2_with fail
      go_ret
      rw [Hwl2.out]
      exact ⟨_, rfl, Hfin.out⟩
end Go.Proofs.YtoapibbbooongaaDoor
