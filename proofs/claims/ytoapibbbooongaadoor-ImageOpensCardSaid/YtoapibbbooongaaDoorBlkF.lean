/- The walks of layer 6: a new map; the least places that are free. -/
import Derived.Test.YtoapibbbooongaaDoorBlkM
import Derived.Deep.CutBlock
namespace Go.Proofs.YtoapibbbooongaaDoor
open Go.RowKit Go.Quad _root_.Quad

theorem under_intsM : Tryd.prog.underlying 51 = some (.slice 3) := by kernel_rfl
theorem under_boolsM : Tryd.prog.underlying 120 = some (.slice 4) := by kernel_rfl
theorem info_intM : (Tryd.prog.info? 3).map (fun i => (i.zero, i.size, i.bytes)) = some (some (.int .i64 0), 1, 8) := by kernel_rfl
theorem info_boolM : (Tryd.prog.info? 4).map (fun i => (i.zero, i.size, i.bytes)) = some (some (.bool false), 1, 1) := by kernel_rfl
def inM (k : Nat) : List Value := [.int .i64 (k : Int)]
theorem inM_length (k : Nat) : (inM k).length = 1 := rfl
theorem inM_one (k : Nat) : ∀ u ∈ inM k, u.oneCell' = true := by intro u hu; simp only [inM, List.mem_singleton] at hu; subst hu; rfl

theorem IsMp.chg {S : List Nat} {w w' : World} {g d : Nat} {m : List Bool} (h : IsMp w g d m) (hc : Chg S w w') (hg : g ∉ S) (hd : d ∉ S) : IsMp w' g d m := ⟨h.own.keep hc hg, h.row.keep hc hd, h.ne, h.few⟩
theorem IsMp.below {w w' : World} {g d : Nat} {m : List Bool} (h : IsMp w g d m) (hb : Below w.heap.size w w') : IsMp w' g d m := h.chg (Chg.of_below [] hb) (by simp) (by simp)
theorem left_rep (n : Nat) : leftM (List.replicate n false) = n := by unfold leftM; rw [List.countP_replicate]; rfl

def MapNewTo (w : World) (n : Nat) (e : Ending) (w' : World) : Prop := ∃ g d, e = .returned (.pointer (some ⟨g, 0, none⟩)) ∧ IsMp w' g d (List.replicate n false) ∧ Below w.heap.size w w' ∧ w.heap.size ≤ g ∧ w.heap.size ≤ d

set_option maxHeartbeats 1000000 in
theorem newmap_calls (w : World) (n : Int) (hn : n ≤ 100000) : Calls Tryd.prog 46 #[.int .i64 n] w (MapNewTo w n.toNat) := by
  obtain ⟨i0, hi, hz0, hz1, hz2⟩ := info_parts info_boolM
  have Hi := hid hi; have Hz0 := hid hz0; have Hz1 := hid hz1; have Hz2 := hid hz2
  clear hi hz0 hz1 hz2
  obtain ⟨k, hk⟩ : ∃ k, n.toNat = k := ⟨_, rfl⟩
  have HK := hid hk
  have hk2 : (k : Int) ≤ 100000 := by omega
  rw [hk]
  have key : (if (n : Int) < 0 then (0 : Int) else n) = (k : Int) := by split <;> omega
  by_cases h0 : n < 0
  · obtain rfl : k = 0 := by omega
    clear hk key
    go_enter Tryd.func46, Tryd.ntmps46
    go_wp2_with (at_make; go_must (refine wpList_make_full _ rfl (.tmp 4) (.tmp 4) _ rfl w.heap.size 4 i0 (.bool false) 1 under_boolsM Hi.out Hz0.out Hz1.out .i64 .i64 _ _ 0 rfl rfl (by omega) (by omega) (by rw [Hz2.out]; omega) (by unfold maxLen; omega) (Nat.le_refl _) ?_; intro w1 hown hgr))
    have hb1 := hid (grownBy_below hgr (Nat.le_refl _) (by simp))
    have hB := hid (blk_of_owned (row_made _ (z := .bool false) rfl hown))
    clear hown hgr
    go_ret
    refine ⟨w1.heap.size, w.heap.size, rfl, ⟨?_, ?_, ?_, ?_⟩, hb1.out.trans ((below_alloc w1 _).mono hb1.out.size), hb1.out.size, Nat.le_refl _⟩
    · rw [List.length_replicate, left_rep]; exact blk_alloc w1 [.slice (some ⟨w.heap.size, 0, none⟩) 0 0, .int .i64 ((0 : Nat) : Int)] _
    · rw [List.map_replicate]; exact hB.out.below (below_alloc w1 _)
    · have := hB.out.lt; omega
    · rw [List.length_replicate]; omega
  · obtain rfl : n = (k : Int) := by omega
    clear hk key
    go_enter Tryd.func46, Tryd.ntmps46
    go_wp2_with (at_make; go_must (refine wpList_make_full _ rfl (.tmp 4) (.tmp 4) _ rfl w.heap.size 4 i0 (.bool false) 1 under_boolsM Hi.out Hz0.out Hz1.out .i64 .i64 _ _ k rfl rfl (by omega) (by omega) (by rw [Hz2.out]; omega) (by unfold maxLen; omega) (Nat.le_refl _) ?_; intro w1 hown hgr))
    have hb1 := hid (grownBy_below hgr (Nat.le_refl _) (by simp))
    have hB := hid (blk_of_owned (row_made _ (z := .bool false) rfl hown))
    clear hown hgr
    go_ret
    refine ⟨w1.heap.size, w.heap.size, rfl, ⟨?_, ?_, ?_, ?_⟩, hb1.out.trans ((below_alloc w1 _).mono hb1.out.size), hb1.out.size, Nat.le_refl _⟩
    · rw [List.length_replicate, left_rep]; exact blk_alloc w1 [.slice (some ⟨w.heap.size, 0, none⟩) k k, .int .i64 ((k : Nat) : Int)] _
    · rw [List.map_replicate]; exact hB.out.below (below_alloc w1 _)
    · have := hB.out.lt; omega
    · rw [List.length_replicate]; omega

def TakeNo (w : World) (_g _d : Nat) (_m : List Bool) (e : Ending) (w' : World) : Prop := e = .returned (.tuple #[.slice none 0 0, .bool false]) ∧ w = w'
set_option maxHeartbeats 1000000 in
theorem takeno_calls (w : World) (g d : Nat) (m : List Bool) (k : Int) (h : IsMp w g d m) (hk : k < 0 ∨ (leftM m : Int) < k) :
    Calls Tryd.prog 52 #[.pointer (some ⟨g, 0, none⟩), .int .i64 k] w (TakeNo w g d m) := by
  have c1 := h.own.get 1 rfl
  have hle := left_le m
  have hfew := h.few
  have hlf : (leftM m : Int) ≤ 100000 := by omega
  by_cases h1 : k < 0
  · clear hk
    go_enter Tryd.func52, Tryd.ntmps52
    go_wp2_with fail
    go_ret2
    exact ⟨rfl, rfl⟩
  · have h1' : decide (k < 0) = false := by simpa using h1
    have h2 : (leftM m : Int) < k := by omega
    clear hk
    go_enter Tryd.func52, Tryd.ntmps52
    go_wp2_with fail
    go_ret2
    exact ⟨rfl, rfl⟩
theorem niltake_calls (w : World) (k : Int) : Calls Tryd.prog 52 #[.pointer none, .int .i64 k] w fun e w' => e = .returned (.tuple #[.slice none 0 0, .bool false]) ∧ w = w' := by
  go_enter Tryd.func52, Tryd.ntmps52
  go_wp2_with fail
  go_ret2
  exact ⟨rfl, rfl⟩
theorem nilset_calls (w : World) (i : Int) (b : Bool) : Calls Tryd.prog 87 #[.pointer none, .int .i64 i, .bool b] w fun e w' => e = .returned (.bool false) ∧ w = w' := by
  go_enter Tryd.func87, Tryd.ntmps87
  go_wp2_with fail
  go_ret
  exact ⟨rfl, rfl⟩
theorem nilmark_calls (w : World) (i : Int) : Calls Tryd.prog 49 #[.pointer none, .int .i64 i] w fun e w' => e = .returned (.bool false) ∧ w = w' := by
  go_enter Tryd.func49, Tryd.ntmps49
  go_wp2_with fail
  refine (nilset_calls w i true).mono ?_
  rintro e w' ⟨rfl, rfl⟩
  dsimp only
  go_wp2_with fail
  go_ret
  exact ⟨rfl, rfl⟩
theorem nilfree_calls (w : World) (i : Int) : Calls Tryd.prog 54 #[.pointer none, .int .i64 i] w fun e w' => e = .returned (.bool false) ∧ w = w' := by
  go_enter Tryd.func54, Tryd.ntmps54
  go_wp2_with fail
  refine (nilset_calls w i false).mono ?_
  rintro e w' ⟨rfl, rfl⟩
  dsimp only
  go_wp2_with fail
  go_ret
  exact ⟨rfl, rfl⟩
theorem nilleft_calls (w : World) : Calls Tryd.prog 66 #[.pointer none] w fun e w' => e = .returned (.int .i64 0) ∧ w = w' := by
  go_enter Tryd.func66, Tryd.ntmps66
  go_wp2_with fail
  go_ret
  exact ⟨rfl, rfl⟩

structure TkRel (w : World) (g d : Nat) (m : List Bool) (k : Nat) (ov iv : Value) (i : Nat) (wr : World) : Prop where
  iv : iv = .int .i64 (i : Int)
  hi : i ≤ m.length
  len : (freeP m i).length ≤ k
  out : RO inM 1 wr w.heap.size 3 ov (freeP m i)
  mp : IsMp wr g d (mkM m i)
  chg : Chg [g, d] w wr
def TkR (w : World) (g d : Nat) (m : List Bool) (k : Nat) (ov iv : Value) (wr : World) : Prop := ∃ i, TkRel w g d m k ov iv i wr
def TakeTo (w : World) (g d : Nat) (m : List Bool) (k : Nat) (e : Ending) (w' : World) : Prop :=
  ∃ (a : Option Addr) (c i : Nat), e = .returned (.tuple #[.slice a k c, .bool true]) ∧ i ≤ m.length ∧ (freeP m i).length = k ∧ RO inM 1 w' w.heap.size 3 (.slice a k c) (freeP m i) ∧ IsMp w' g d (mkM m i) ∧ Chg [g, d] w w'
theorem mark_skip {m : List Bool} {i : Nat} (_h : i < m.length) (hb : m[i]? = some true) : markM (mkM m i) (i : Int) true = (mkM m i, false) := by
  unfold markM
  rw [if_neg]
  rintro ⟨_, _, h3⟩
  rw [Int.toNat_natCast, List.getD_eq_getElem?_getD, mkM_get (Nat.le_refl _), hb] at h3
  cases h3
theorem mark_take {m : List Bool} {i : Nat} (h : i < m.length) (hb : m[i]? = some false) : markM (mkM m i) (i : Int) true = (mkM m (i + 1), true) := by
  unfold markM
  rw [if_pos, Int.toNat_natCast, mkM_set h]
  refine ⟨by omega, by rw [mkM_length (by omega)]; omega, ?_⟩
  rw [Int.toNat_natCast, List.getD_eq_getElem?_getD, mkM_get (Nat.le_refl _), hb]
  rfl

set_option maxRecDepth 100000 in
set_option maxHeartbeats 1000000 in
theorem take_calls (w : World) (g d : Nat) (m : List Bool) (k : Nat) (h : IsMp w g d m) (hk : k ≤ leftM m) :
    Calls Tryd.prog 52 #[.pointer (some ⟨g, 0, none⟩), .int .i64 (k : Int)] w (TakeTo w g d m k) := by
  have c1 := h.own.get 1 rfl
  have hle := left_le m
  have hfew := h.few
  have hlf : (leftM m : Int) ≤ 100000 := by omega
  have h1' : ¬ ((leftM m : Int) < (k : Int)) := by omega
  have h2' : ¬ ((k : Int) < 0) := by omega
  have hkb : (k : Int) ≤ 100000 := by omega
  have HK := hid hk
  have HF := hid hfew
  have X0 := hid (show TkR w g d m k (.slice none 0 0) (.int .i64 0) w from ⟨0, rfl, Nat.zero_le _, Nat.zero_le _, RO.nil _ _ _ _ _, by rw [mkM_zero]; exact h, Chg.refl _ _⟩)
  have hgl := h.own.lt
  have hdl := h.row.lt
  have GL := hid (And.intro hgl hdl)
  clear h hk hgl hdl hfew hle
  go_enter Tryd.func52, Tryd.ntmps52
  go_wp2_with fail
  go_loopw [6, 7] (fun ov iv wr => TkR w g d m k ov iv wr) (fun _ iv _ => m.length - (intOf iv).toNat)
  case atStart => exact X0.out
  case round =>
    obtain ⟨i, rfl, hi, hlen, hout, hmp, hchg⟩ := hrel
    obtain ⟨a, n, c, rfl, hn, hnc, _⟩ := hout.cs
    have HO := hid hout
    have HM := hid hmp
    have HC := hid hchg
    have HN := hid hn
    have HI := hid hi
    have hn2 : n ≤ k := by omega
    have HL := hid hn2
    have hib : (i : Int) ≤ 100000 := by have := HF.out; omega
    have hnb : (n : Int) ≤ 100000 := by omega
    clear hout hmp hchg hn hlen hi hnc X0
    obtain ⟨wo, hwo⟩ : ∃ wo : World, wo = wr := ⟨_, rfl⟩
    by_cases hnk : n < k
    · have hnk' : (n : Int) < (k : Int) := by omega
      have hil : i < m.length := freeP_more HI.out HK.out (by rw [HN.out]; exact hnk)
      have HIL := hid hil
      have hC := hid (mark_calls wr g d (mkM m i) (i : Int) HM.out)
      obtain ⟨b, hb⟩ : ∃ b, m[i]? = some b := ⟨_, List.getElem?_eq_getElem hil⟩
      have HB := hid hb
      have hfs := freeP_succ m i
      rw [List.getD_eq_getElem?_getD, hb] at hfs
      have HFS := hid hfs
      clear hil hb hfs hwo c1
      cases b
      · have hm := mark_take HIL.out HB.out
        rw [hm] at hC
        clear hm
        go_upto_region 8 with (go_at_call 49; refine hC.out.mono ?_; rintro e w2 ⟨rfl, hp2, hc2⟩; have P2 := hid hp2; have C2 := hid hc2; clear hp2 hc2; dsimp only)
        have O2 := hid (HO.out.chg C2.out (fun q hq => by have := (HO.out.ownBlock q hq).1; have := GL.out; simp; omega))
        have L2 := hid (cs_lit w2 (inM i) 3 1 1 rfl (by simp [maxLen]))
        go_wp2_with (at_builtin; go_must (refine wpList_append_ro inM_length inM_one (by decide) (.tmp 31) (.tmp 33) _ rfl rfl w.heap.size 3 _ 8 info_intM rfl under_intsM _ _ (O2.out.below (below_alloc w2 (.cells #[.int .i64 (i : Int)] 3))) rfl (l' := [i]) rfl (show CS _ _ _ _ ([i].flatMap inM) from L2.out) (Nat.le_refl _) rfl (by have := HN.out; have := HL.out; simp; omega) (by have := HC.out.size; have := C2.out.size; simp; omega) ?_; intro v6 w6 ho6 hb6 hg6 hw6))
        have R : TkR w g d m k v6 (.int .i64 ((i : Int) + 1)) w6 := by
          have h0 : v6.ownBlock = v6.ownBlock := rfl
          have hcg : Chg (Value.slice a n c).ownBlock.toList (w2.alloc (.cells #[.int .i64 (i : Int)] 3)) w6 := chg_grown hg6
          have hoff : ∀ q, (Value.slice a n c).ownBlock = some q → w.heap.size ≤ q := fun q hq => (HO.out.ownBlock q hq).1
          have hfl : freeP m (i + 1) = freeP m i ++ [i] := HFS.out
          refine ⟨i + 1, by go_num, HIL.out, by rw [hfl, List.length_append, HN.out]; simp; omega, by rw [hfl]; exact ho6, ((P2.out.below (below_alloc w2 _)).chg hcg ?_ ?_), ?_⟩
          · intro hm; have := hoff g (by simpa using hm); have := GL.out; omega
          · intro hm; have := hoff d (by simpa using hm); have := GL.out; omega
          · exact ((HC.out.trans C2.out).trans (Chg.of_below _ (below_alloc w2 _))).newer hcg (fun q hq => hoff q (by simpa using hq))
        have HR := hid R
        clear R ho6 hb6 hg6 hw6
        go_wp2_with fail
        refine ⟨?_, by simp [intOf]; have := HIL.out; omega⟩
        first | exact HR.out | ((repeat apply Exists.intro); refine ⟨HR.out, ?_⟩; and_intros <;> rfl)
      · have hm := mark_skip HIL.out HB.out
        rw [hm] at hC
        clear hm
        go_wp2_with (go_at_call 49; refine hC.out.mono ?_; rintro e w2 ⟨rfl, hp2, hc2⟩; have P2 := hid hp2; have C2 := hid hc2; clear hp2 hc2; dsimp only)
        have R : TkR w g d m k (.slice a n c) (.int .i64 ((i : Int) + 1)) w2 := by
          have hfl : freeP m (i + 1) = freeP m i := by have := HFS.out; simpa using this
          exact ⟨i + 1, by go_num, HIL.out, by rw [hfl, HN.out]; have := HL.out; omega, by rw [hfl]; exact HO.out.chg C2.out (fun q hq => by have := (HO.out.ownBlock q hq).1; have := GL.out; simp; omega), by rw [mkM_skip HB.out]; exact P2.out, HC.out.trans C2.out⟩
        refine ⟨?_, by simp [intOf]; have := HIL.out; omega⟩
        first | exact R | ((repeat apply Exists.intro); refine ⟨R, ?_⟩; and_intros <;> rfl)
    · obtain rfl : n = k := by omega
      have hnk' : ¬ ((n : Int) < (n : Int)) := by omega
      clear hwo c1
      go_wp2_with fail
      go_ret2
      exact ⟨a, c, i, rfl, HI.out, HN.out, HO.out, HM.out, HC.out⟩
end Go.Proofs.YtoapibbbooongaaDoor
