/- The walks of layer 6: a block is put. -/
import Derived.Test.YtoapibbbooongaaDoorBlkA
import Derived.Test.YtoapibbbooongaaDoorSlabE
import Derived.Test.YtoapibbbooongaaDoorRfA
import Derived.RegionTactic
import Derived.BigRegion
import Derived.Deep.CutBlock
namespace Go.Proofs.YtoapibbbooongaaDoor
open Go.RowKit Go.Quad _root_.Quad _root_.Quad.Slab

theorem splice_pre (pre l : List Value) (z : Value) (k m n : Nat) (hp : pre.length = n) (hl : l.length = k) : splice (pre ++ List.replicate (k + m) z) n l = (pre ++ l) ++ List.replicate m z := by
  unfold splice
  rw [List.take_left' hp, hl, ← hp, List.drop_append, List.drop_eq_nil_of_le (by omega), List.nil_append, List.drop_replicate, List.append_assoc]
  congr 3
  omega
theorem fourV_length (v : Nat) : (fourV v).length = 4 := rfl
theorem bytes_lt (n : Nat) (h : n < 256) : (.int .u8 (n : Int) : Value) = u8v (UInt8.ofNat n) := (u8v_of' n h).symm
/-- the sector's bytes, step by step -/
def putC0 (x : BlkD) : List Value := ((List.replicate 128 (Value.int .u8 0)).set 0 (.int .u8 (x.kind : Int))).set 1 (.int .u8 (x.data.length : Int))
def putC1 (x : BlkD) : List Value := splice (putC0 x) 2 (fourV x.epoch)
def putC2 (x : BlkD) : List Value := splice (putC1 x) 6 (fourV x.a)
def putC3 (x : BlkD) : List Value := splice (putC2 x) 10 (fourV x.b)
def putCs (x : BlkD) : List Value := splice (putC3 x) 14 (x.data.map u8v)
theorem splice_len (cs l : List Value) (o : Nat) (h : o + l.length ≤ cs.length) : (splice cs o l).length = cs.length := by
  unfold splice; simp; omega
theorem putC0_len (x : BlkD) : (putC0 x).length = 128 := by unfold putC0; rw [List.length_set, List.length_set, List.length_replicate]
theorem putC1_len (x : BlkD) : (putC1 x).length = 128 := by unfold putC1; rw [splice_len _ _ _ (by rw [putC0_len, fourV_length]; omega), putC0_len]
theorem putC2_len (x : BlkD) : (putC2 x).length = 128 := by unfold putC2; rw [splice_len _ _ _ (by rw [putC1_len, fourV_length]; omega), putC1_len]
theorem putC3_len (x : BlkD) : (putC3 x).length = 128 := by unfold putC3; rw [splice_len _ _ _ (by rw [putC2_len, fourV_length]; omega), putC2_len]
theorem putCs_len (x : BlkD) (h : x.data.length ≤ 104) : (putCs x).length = 128 := by unfold putCs; rw [splice_len _ _ _ (by rw [putC3_len, List.length_map]; omega), putC3_len]
theorem putCs_eq (x : BlkD) (hx : x.Ok) (hl : x.data.length ≤ 104) : putCs x = (bodyB x).map u8v ++ List.replicate 4 (Value.int .u8 0) := by
  have e0 : ((List.replicate 128 (Value.int .u8 0)).set 0 (.int .u8 (x.kind : Int))).set 1 (.int .u8 (x.data.length : Int)) = [Value.int .u8 (x.kind : Int), .int .u8 (x.data.length : Int)] ++ List.replicate (4 + 122) (Value.int .u8 0) := rfl
  unfold putCs putC3 putC2 putC1 putC0
  rw [e0, splice_pre _ (fourV x.epoch) _ 4 122 2 rfl rfl, show 122 = 4 + 118 from rfl, splice_pre _ (fourV x.a) _ 4 118 6 rfl rfl, show 118 = 4 + 114 from rfl, splice_pre _ (fourV x.b) _ 4 114 10 rfl rfl]
  have e1 : 114 = x.data.length + (110 - x.data.length + 4) := by omega
  rw [show List.replicate 114 (Value.int .u8 0) = List.replicate (x.data.length + (110 - x.data.length + 4)) (Value.int .u8 0) from congrArg (fun n => List.replicate n (Value.int .u8 0)) e1, splice_pre _ (x.data.map u8v) _ x.data.length _ 14 rfl (by simp)]
  rw [fourV_le4 _ hx.epoch, fourV_le4 _ hx.a, fourV_le4 _ hx.b, bytes_lt _ hx.kind, bytes_lt _ (by omega)]
  unfold bodyB headB
  rw [← List.replicate_append_replicate]
  simp only [List.map_append, List.map_cons, List.map_replicate, List.append_assoc, List.cons_append, List.nil_append]
  rfl
theorem putEnd (x : BlkD) (hx : x.Ok) (hl : x.data.length ≤ 104) : splice (putCs x) 124 (fourV (crc (bodyB x)).toNat) = (encB x).map u8v := by
  have hb : ((bodyB x).map u8v).length = 124 := by rw [List.length_map]; exact bodyB_length (by omega)
  rw [putCs_eq x hx hl, splice_pre _ _ _ 4 0 124 hb rfl, fourV_le4 _ (crc (bodyB x)).isLt]
  unfold encB
  rw [tailL_le4]
  simp
theorem bs_of_blk {w : World} {b n : Nat} {l : List UInt8} {t : TypeId} (h : Blk w b (l.map u8v) t) (hn : l.length = n) (hm : n ≤ 1000000) : BS w (some ⟨b, 0, none⟩) n l := by
  refine ⟨by simp [hn], by unfold maxLen; omega, by simp, .inr ⟨b, 0, rfl, fun i v hv => ?_⟩⟩
  rw [h.cell, Nat.zero_add]; exact hv
theorem sum_n (a : Option Addr) (cap n : Nat) (l : List UInt8) (w : World) (h : BS w a cap l) (hq : Laid w) (hn : l.length = n) :
    Calls Tryd.prog 84 #[.slice a n cap] w fun e w' => e = .returned (.int .u32 ((crc l).toNat : Int)) ∧ w = w' := by
  subst hn; exact sum_calls a cap l w h hq
theorem write_n (w : World) (B g d : Nat) (wv : Value) (s : Sl) (i : Int) (a : Option Addr) (cap n : Nat) (t : List UInt8) (h : IsSlab w B g d wv s) (hi : -9223372036854775808 ≤ i ∧ i ≤ 9223372036854775807) (ht : BS w a cap t) (hn : t.length = n) (hs : s.steps < 1000000) (hw : s.way.length < 1000000) (hoff : t = [] ∨ ∀ x, a = some x → x.block ∉ slS g d wv) :
    Calls Tryd.prog 17 #[.pointer (some ⟨g, 0, none⟩), .int .i64 i, .slice a n cap] w (SlabTo w B g d wv (writeL s i t).1 (writeL s i t).2) := by
  subst hn; exact write_any w B g d wv s i a cap t h hi ht hs hw hoff
theorem slabTo_later {w w1 w' : World} {B g d : Nat} {wv : Value} {s s' : Sl} {r : Nat} {e : Ending} (_h : IsSlab w B g d wv s) (hb : Below w.heap.size w w1) (ht : SlabTo w1 B g d wv s' r e w') : SlabTo w B g d wv s' r e w' := by
  obtain ⟨wv', h1, h2, h3, h4⟩ := ht
  exact ⟨wv', h1, h2, (Chg.of_below _ hb).trans h3, fun k hk => (h4 k hk).imp id fun h => Nat.le_trans hb.size h⟩
theorem Laid.drewN {w : World} (h : Laid w) (n : Nat) : Laid (w.drewN n) := h.below (below_drewN (Below.refl w.heap.size w) n) h.1
/-- a struct in its box, and the sector's bytes, both new -/
structure PW (w0 : World) (q : Nat) (bx cs : List Value) (w : World) : Prop where
  box : Blk w q bx 96
  buf : Blk w (q + 1) cs 5
  bel : Below q w0 w
theorem PW.next {w0 w w' : World} {q nq : Nat} {bx cs cs' : List Value} (h : PW w0 q bx cs w) (hB : Blk w' (q + 1) cs' 5) (hc : Chg [q + 1] (w.drewN nq) w') (hq : q ≤ w0.heap.size) : PW w0 q bx cs' w' := by
  have hd := below_drewN (Below.refl w.heap.size w) nq
  refine ⟨(h.box.below hd).keep hc (by simp), hB, h.bel.trans ((hd.mono ?_).trans (hc.below ?_ (by simp)))⟩
  · have := h.bel.size; omega
  · have := h.bel.size; have := hd.size; omega

theorem PW.bel' {w0 w : World} {q : Nat} {bx cs : List Value} (h : PW w0 q bx cs w) (hq : w0.heap.size = q) : Below w0.heap.size w0 w := by rw [hq]; exact h.bel

def PutTo (w : World) (B g d : Nat) (wv : Value) (r : Sl × Nat) (e : Ending) (w' : World) : Prop := SlabTo w B g d wv r.1 r.2 e w'

theorem putTo_no {w w' : World} {B g d : Nat} {wv : Value} {s : Sl} (h : IsSlab w B g d wv s) (hb : Below w.heap.size w w') (n : Nat) : PutTo w B g d wv (s, n) (.returned (.int .i64 (n : Int))) w' :=
  ⟨wv, rfl, h.below hb, Chg.of_below _ hb, fun k hk => .inl (by simp [slS, hk])⟩

set_option maxHeartbeats 1000000 in
theorem putno_calls (w : World) (B g d : Nat) (wv : Value) (s : Sl) (i : Int) (da : Option Addr) (dn dc : Nat) (x : BlkD) (h : IsSlab w B g d wv s) (hi : -9223372036854775808 ≤ i ∧ i ≤ 9223372036854775807) (_hx : x.Ok)
    (hd : BS w da dc x.data) (hn : x.data.length = dn) (hno : i < 0 ∨ (s.done.length : Int) ≤ i ∨ 104 < x.data.length ∨ x.kind = 0) :
    Calls Tryd.prog 90 #[.pointer (some ⟨g, 0, none⟩), .int .i64 i, .agg #[.int .u8 (x.kind : Int), .int .u32 (x.epoch : Int), .int .u32 (x.a : Int), .int .u32 (x.b : Int), .slice da dn dc]] w (PutTo w B g d wv (putB s i x)) := by
  have hm := hd.max'
  rw [hn] at hm
  unfold putB
  by_cases h1 : i < 0
  · rw [if_pos (.inl h1)]
    have H := hid h
    clear h
    go_enter Tryd.func90, Tryd.ntmps90
    go_wp2_with fail
    go_ret
    exact putTo_no H.out (below_alloc _ _) 1
  have L := fun W hW => len_calls W B g d wv s (h.below hW)
  have hl := h.ok.small
  by_cases h2 : (s.done.length : Int) ≤ i
  · rw [if_pos (.inr h2)]
    have h1' : decide (i < 0) = false := by simpa using h1
    have H := hid h
    have L' := hid L
    clear h L
    go_enter Tryd.func90, Tryd.ntmps90
    go_wp2_with (go_at_call 44; refine (L'.out _ (below_alloc _ _)).mono ?_; rintro e w' ⟨rfl, rfl⟩)
    go_ret
    exact putTo_no H.out (below_alloc _ _) 1
  rw [if_neg (by omega)]
  have h1' : decide (i < 0) = false := by simpa using h1
  have h2' : ¬ ((s.done.length : Int) ≤ i) := h2
  by_cases h3 : 104 < x.data.length
  · rw [if_pos h3]
    have h3' : (104 : Int) < (dn : Int) := by omega
    have H := hid h
    have L' := hid L
    clear h L
    go_enter Tryd.func90, Tryd.ntmps90
    go_wp2_with (go_at_call 44; refine (L'.out _ (below_alloc _ _)).mono ?_; rintro e w' ⟨rfl, rfl⟩)
    go_ret
    exact putTo_no H.out (below_alloc _ _) 3
  rw [if_neg h3]
  have h3' : ¬ ((104 : Int) < (dn : Int)) := by omega
  have h4 : x.kind = 0 := by omega
  rw [if_pos h4]
  have h4' := hid h4
  have hk : ((x.kind : Int) == 0) = true := by rw [h4]; rfl
  have H := hid h
  have L' := hid L
  clear h L h4 hno hn
  go_enter Tryd.func90, Tryd.ntmps90
  go_wp2_with (go_at_call 44; refine (L'.out _ (below_alloc _ _)).mono ?_; rintro e w' ⟨rfl, rfl⟩)
  go_ret
  exact putTo_no H.out (below_alloc _ _) 4
set_option maxRecDepth 100000 in
set_option maxHeartbeats 1000000 in
theorem put_calls (w : World) (B g d : Nat) (wv : Value) (s : Sl) (i : Int) (da : Option Addr) (dn dc : Nat) (x : BlkD) (h : IsSlab w B g d wv s) (hi : -9223372036854775808 ≤ i ∧ i ≤ 9223372036854775807) (hx : x.Ok)
    (hd : BS w da dc x.data) (hn : x.data.length = dn) (hq : Laid w) (hs : s.steps < 1000000) (hw : s.way.length < 1000000) (hyes : ¬ (i < 0 ∨ (s.done.length : Int) ≤ i ∨ 104 < x.data.length ∨ x.kind = 0)) :
    Calls Tryd.prog 90 #[.pointer (some ⟨g, 0, none⟩), .int .i64 i, .agg #[.int .u8 (x.kind : Int), .int .u32 (x.epoch : Int), .int .u32 (x.a : Int), .int .u32 (x.b : Int), .slice da dn dc]] w (fun e w' => SlabTo w B g d wv (writeL s i (encB x)).1 (writeL s i (encB x)).2 e w') := by
  have hm := hd.max'
  rw [hn] at hm
  have L := hid (fun W hW => len_calls W B g d wv s (h.below hW))
  have hl := h.ok.small
  have h1' : decide (i < 0) = false := by simp; omega
  have h2' : ¬ ((s.done.length : Int) ≤ i) := by omega
  have h3' : ¬ ((104 : Int) < (dn : Int)) := by omega
  have hk : ((x.kind : Int) == 0) = false := by simp; omega
  have hk2 := hx.kind
  have hkk : (x.kind : Int) ≤ 255 := by omega
  have H := hid h
  have N := hid hn
  have D := hid hd
  have HQ := hid hq
  obtain ⟨i0, hi0, hz0, hz1, hz2⟩ := info_parts info_u8
  have Hi := hid hi0; have Hz0 := hid hz0; have Hz1 := hid hz1; have Hz2 := hid hz2
  clear h hyes hn hk2 hi0 hz0 hz1 hz2 hd hq
  go_enter Tryd.func90, Tryd.ntmps90
  go_wp2_with (first | (go_at_call 44; refine (L.out _ (below_alloc _ _)).mono ?_; rintro e w' ⟨rfl, rfl⟩) | (at_make; go_must (refine wpList_make_full _ rfl (.const (.int .i64 128)) (.const (.int .i64 128)) _ rfl w.heap.size 5 i0 (.int .u8 0) 1 under_bytes Hi.out Hz0.out Hz1.out .i64 .i64 _ _ 128 rfl rfl (by omega) (by omega) (by rw [Hz2.out]; omega) (by unfold maxLen; omega) (by simp) ?_; intro w1 hown hgr)))
  have hB : Blk w1 (w.heap.size + 1) (List.replicate 128 (.int .u8 0)) 5 := by
    have := blk_of_owned (row_made _ (z := .int .u8 0) rfl hown)
    simpa using this
  have hb1 : Below (w.heap.size + 1) _ w1 := grownBy_below hgr (by simp) (by simp)
  have hX : Blk w1 w.heap.size [.int .u8 (x.kind : Int), .int .u32 (x.epoch : Int), .int .u32 (x.a : Int), .int .u32 (x.b : Int), .slice da dn dc] 96 := (blk_alloc w _ _).belowAt hb1 (by simp)
  have hbb : Below w.heap.size w w1 := (below_alloc w _).trans (hb1.mono (by simp))
  obtain ⟨q, hq⟩ : ∃ q, w.heap.size = q := ⟨_, rfl⟩
  rw [hq] at hB hX hbb ⊢
  have Q := hid hq
  have Bb := hid hbb
  have c0 := hX.get 0 rfl
  have c4 := hX.get 4 rfl
  have p0 := hB.get 0 (v := .int .u8 0) rfl
  have p1 := hB.get 1 (v := .int .u8 0) rfl
  have f0 := hB.free 0
  have f1 := hB.free 1
  have X1 := hid hX
  have B1 := hid hB
  clear hq hown hgr hb1 hbb hB hX
  go_region
  have hW : PW w q [.int .u8 (x.kind : Int), .int .u32 (x.epoch : Int), .int .u32 (x.a : Int), .int .u32 (x.b : Int), .slice da dn dc] (putC0 x) ((w1.setCell ⟨q + 1, 0, none⟩ (.int .u8 (x.kind : Int))).setCell ⟨q + 1, 1, none⟩ (.int .u8 (dn : Int))).drew := by
    have hc := (chg_setCell w1 (q + 1) 0 (.int .u8 (x.kind : Int))).trans (chg_setCell _ (q + 1) 1 (.int .u8 (dn : Int)))
    refine ⟨(X1.out.keep hc (by simp)).below (below_drew _), by unfold putC0; rw [N.out]; exact ((B1.out.set 0 _).set 1 _).below (below_drew _), ?_⟩
    have hs := Bb.out.size
    have hb2 := Bb.out
    rw [Q.out] at hs
    exact (hb2.trans (hc.below hs (by simp))).drew
  generalize ((w1.setCell ⟨q + 1, 0, none⟩ (.int .u8 (x.kind : Int))).setCell ⟨q + 1, 1, none⟩ (.int .u8 (dn : Int))).drew = w2 at hW ⊢
  clear c0 c4 p0 p1 f0 f1 X1 B1
  have W2 := hid hW
  have c1 := hW.box.get 1 rfl
  clear hW
  go_upto_region 11 with fail
  go_region_with (go_at_call 108; refine (put4_calls x.epoch (q + 1) 2 126 126 _ 5 _ (W2.out.buf.below (below_drewN (Below.refl _ _) _)) hx.epoch (by omega) (by rw [putC0_len]; omega) (by omega)).mono ?_; rintro e w3 ⟨rfl, hB3, hc3⟩)
  have hW := W2.out.next (cs' := putC1 x) hB3 hc3 (by rw [Q.out]; exact Nat.le_refl _)
  have W3 := hid hW
  have c2 := hW.box.get 2 rfl
  clear hW hB3 hc3 c1 W2
  go_upto_region 12 with fail
  go_region_with (go_at_call 108; refine (put4_calls x.a (q + 1) 6 122 122 _ 5 _ (W3.out.buf.below (below_drewN (Below.refl _ _) _)) hx.a (by omega) (by rw [putC1_len]; omega) (by omega)).mono ?_; rintro e w4 ⟨rfl, hB4, hc4⟩)
  have hW := W3.out.next (cs' := putC2 x) hB4 hc4 (by rw [Q.out]; exact Nat.le_refl _)
  have W4 := hid hW
  have c3 := hW.box.get 3 rfl
  clear hW hB4 hc4 c2 W3
  go_upto_region 13 with fail
  go_region_with (go_at_call 108; refine (put4_calls x.b (q + 1) 10 118 118 _ 5 _ (W4.out.buf.below (below_drewN (Below.refl _ _) _)) hx.b (by omega) (by rw [putC2_len]; omega) (by omega)).mono ?_; rintro e w5 ⟨rfl, hB5, hc5⟩)
  have hW := W4.out.next (cs' := putC3 x) hB5 hc5 (by rw [Q.out]; exact Nat.le_refl _)
  have W5 := hid hW
  have c4 := hW.box.get 4 rfl
  clear hW hB5 hc5 c3 W4
  go_upto_region 14 with fail
  refine wp_region_chg 8 4 [] (fun idx v w' => match idx with
    | 0 => v = .slice (some ⟨q + 1, 0, none⟩) 128 128
    | 1 => v = .slice (some ⟨q + 1, 14, none⟩) 114 114
    | 2 => v = .pointer (some ⟨q, 4, none⟩)
    | 3 => v = .slice da dn dc
    | _ => True) (by kernel_rfl) (by kernel_rfl) (by kernel_rfl) ?_ ?_ ?_ ?_
  · intro j v wx wy hR hb
    match j, hR with
    | 0, hR | 1, hR | 2, hR | 3, hR => exact hR
    | _ + 4, _ => trivial
  · intro j v wx wy hne hR hb
    match j, hR with
    | 0, hR | 1, hR | 2, hR | 3, hR => exact hR
    | _ + 4, _ => trivial
  · refine ⟨?_, ?_, ?_, ?_, trivial⟩
    all_goals intro ρ wx hE hc hg hf
    · intro h0; exact opOk_move _ rfl ⟨Below.refl _ _, h0⟩
    · intro (h0 : ρ (.tmp 55) = .slice (some ⟨q + 1, 0, none⟩) 128 128)
      exact opOk_run (v := .slice (some ⟨q + 1, 14, none⟩) 114 114) (w' := wx) (by go_simp) ⟨Below.refl _ _, rfl⟩
    · intro (h0 : ρ (.tmp 5) = .pointer (some ⟨q, 0, none⟩))
      exact opOk_run (v := .pointer (some ⟨q, 4, none⟩)) (w' := wx) (by go_simp) ⟨Below.refl _ _, rfl⟩
    · intro (h0 : ρ (.tmp 57) = .pointer (some ⟨q, 4, none⟩))
      have c := ((W5.out.box.below (below_drew _)).keep (S := []) hE (by simp)).get 4 rfl
      exact opOk_load _ _ rfl _ _ h0 (run_bytes_at' _ _ _ _ c) ⟨Below.refl _ _, rfl⟩
  · intro wz hE
    rintro _ rfl _ rfl _ rfl _ rfl
    simp only [PutLast, Act.put, List.setIfInBounds_toArray, List.set_cons_succ, List.set_cons_zero]
    have hE5 : Below w5.heap.size w5 wz := (below_drew _).trans (hE.below0.mono (Nat.le_refl _))
    have hs5 := W5.out.bel.size
    refine opOk_copy (.tmp 56) (.tmp 58) _ _ rfl 5 under_bytes (by kernel_rfl) (some ⟨q + 1, 14, none⟩) da 114 114 dn dc rfl rfl (q + 1) 14 _ 5 (W5.out.buf.below hE5) (x.data.map u8v) (by rw [List.length_map, N.out]; exact (Nat.min_eq_left (by omega)).symm) (fun h0 => ⟨rfl, copy_src ((D.out.below (W5.out.bel' Q.out)).below hE5) h0⟩) (by rw [putC3_len, List.length_map, N.out]; omega) (oneCell_u8v _) ?_
    intro w6 hB6 hc6
    have hW : PW w q [.int .u8 (x.kind : Int), .int .u32 (x.epoch : Int), .int .u32 (x.a : Int), .int .u32 (x.b : Int), .slice da dn dc] (putCs x) w6 := by
      refine ⟨(W5.out.box.below hE5).keep hc6 (by simp), hB6, W5.out.bel.trans ((hE5.mono (by have := W5.out.bel.size; have := Q.out; omega)).trans (hc6.below (by have := hE5.size; have := Q.out; omega) (by simp)))⟩
    have W6 := hid hW
    clear hW hB6 hc6 W5 c4
    have hN104 : dn ≤ 104 := by omega
    have HB := hid (show Blk w6 (q + 1) ((bodyB x).map u8v ++ List.replicate 4 (Value.int .u8 0)) 5 from by rw [← putCs_eq x hx (by rw [N.out]; exact hN104)]; exact W6.out.buf)
    have hbl := hid (bodyB_length (x := x) (by rw [N.out]; omega))
    have hsz6 := hid (W6.out.bel' Q.out)
    have HBS := hid (show BS w6 (some ⟨q + 1, 0, none⟩) 128 (bodyB x) from by
      refine ⟨by simp [hbl.out], by simp [maxLen], by simp, .inr ⟨q + 1, 0, rfl, fun i v hv => ?_⟩⟩
      rw [HB.out.cell, Nat.zero_add, List.getElem?_append_left (List.getElem?_eq_some_iff.1 hv).1]; exact hv)
    go_upto_region 15 with fail
    go_region_with (first | (go_at_call 84; refine (sum_n _ 128 124 (bodyB x) _ (HBS.out.below (below_drewN (Below.refl _ _) _)) ((HQ.out.below hsz6.out HQ.out.1).drewN _) hbl.out).mono ?_; rintro e w7 ⟨rfl, rfl⟩) | (go_at_call 108; refine (put4_calls (crc (bodyB x)).toNat (q + 1) 124 4 4 _ 5 _ (W6.out.buf.below (below_drewN (Below.refl _ _) _)) (crc (bodyB x)).isLt (by omega) (by rw [putCs_len x (by rw [N.out]; exact hN104)]; omega) (by omega)).mono ?_; rintro e w8 ⟨rfl, hB8, hc8⟩))
    have hW := W6.out.next hB8 hc8 (by rw [Q.out]; exact Nat.le_refl _)
    rw [putEnd x hx (by rw [N.out]; exact hN104)] at hW
    have W8 := hid hW
    have hlen := hid (encB_length (x := x) (by rw [N.out]; omega))
    clear hW hB8 hc8 HB hbl HBS W6 hsz6
    have hbb := hid (W8.out.bel' Q.out)
    have hne : ∀ k ∈ slS g d wv, k < q := fun k hk => by rw [← Q.out]; exact (H.out.in_ge k hk).2
    have Hne := hid hne
    clear hne
    go_wp2_with (go_at_call 17; refine (write_n _ B g d wv s i _ 128 128 (encB x) (H.out.below hbb.out) hi (bs_of_blk W8.out.buf hlen.out (by omega)) hlen.out hs hw (.inr fun y hy hm => by cases hy; have := Hne.out _ hm; dsimp only at this; omega)).mono ?_; intro e w9 ht; obtain ⟨wv9, rfl, t2⟩ := slabTo_later H.out hbb.out ht; have T9 := hid t2; clear ht t2)
    go_ret
    exact ⟨wv9, rfl, T9.out⟩

theorem put_any (w : World) (B g d : Nat) (wv : Value) (s : Sl) (i : Int) (da : Option Addr) (dn dc : Nat) (x : BlkD) (h : IsSlab w B g d wv s) (hi : -9223372036854775808 ≤ i ∧ i ≤ 9223372036854775807) (hx : x.Ok)
    (hd : BS w da dc x.data) (hn : x.data.length = dn) (hq : Laid w) (hs : s.steps < 1000000) (hw : s.way.length < 1000000) :
    Calls Tryd.prog 90 #[.pointer (some ⟨g, 0, none⟩), .int .i64 i, .agg #[.int .u8 (x.kind : Int), .int .u32 (x.epoch : Int), .int .u32 (x.a : Int), .int .u32 (x.b : Int), .slice da dn dc]] w (PutTo w B g d wv (putB s i x)) := by
  by_cases hno : i < 0 ∨ (s.done.length : Int) ≤ i ∨ 104 < x.data.length ∨ x.kind = 0
  · exact putno_calls w B g d wv s i da dn dc x h hi hx hd hn hno
  · have e : putB s i x = writeL s i (encB x) := by
      unfold putB
      rw [if_neg (by omega), if_neg (by omega), if_neg (by omega)]
    rw [e]
    exact put_calls w B g d wv s i da dn dc x h hi hx hd hn hq hs hw hno

theorem nilput_calls (w : World) (i : Int) (v0 v1 v2 v3 v4 : Value) : Calls Tryd.prog 90 #[.pointer none, .int .i64 i, .agg #[v0, v1, v2, v3, v4]] w fun e w' => e = .returned (.int .i64 6) ∧ Below w.heap.size w w' := by
  go_enter Tryd.func90, Tryd.ntmps90
  go_wp2_with fail
  go_ret
  exact ⟨rfl, below_alloc _ _⟩
end Go.Proofs.YtoapibbbooongaaDoor
