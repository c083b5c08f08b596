/- SlabOthers: a crash changes nothing but sectors to which a write was under way; each of these has, byte by byte, what it had or what was written last or ahead of that. -/
import Derived.Test.YtoegnlabneafkaaOthB
import Derived.Deep.CutBlock
import Derived.Deep.DeepMust
import Derived.RegionTactic
import Derived.BigRegion
import Derived.Deep.RegionWith
import Derived.Deep.RegionLaw
import Derived.Deep.CutRange
namespace Go.Proofs.Ytoegnlabneafkaa
open Go.RowKit Go.Quad _root_.Quad.Slab

def OoRel1 (w1 : World) (g : Nat) (iv : Value) (wr : World) : Prop := ∃ (i : Nat) (s : Sl), iv = .int .i64 (i : Int) ∧ i ≤ 5 ∧ SX w1 g s [] wr ∧ OthQ i s
def OoRel2 (w1 : World) (g m : Nat) (s : Sl) (iv : Value) (wr : World) : Prop :=
  ∃ (i : Nat) (X : List Nat) (VS : List CandL), iv = .int .i64 (i : Int) ∧ i ≤ 5 ∧ SX w1 g s X wr ∧ May wr w1.heap.size X m VS ∧ VS.length = 5 ∧ (∀ k, i ≤ k → k < 5 → VS[k]? = some (.slice none 0 0, [])) ∧ (∀ k, k < i → MS VS k = [s.done.getD k []]) ∧ ∀ y ∈ VS, ∀ x ∈ y.2, x.2.length = 128
def OoRel3 (w1 : World) (g m n : Nat) (iv : Value) (wr : World) : Prop :=
  ∃ (k : Nat) (s : Sl) (X : List Nat) (VS : List CandL), iv = .int .i64 (k : Int) ∧ k ≤ n ∧ k ≤ 12 ∧ SX w1 g s X wr ∧ May wr w1.heap.size X m VS ∧ OthP (k + 6) s VS
theorem under_may : Try.prog.underlying 36 = some (.slice 37) := by kernel_rfl
theorem under_cand : Try.prog.underlying 37 = some (.slice 22) := by kernel_rfl
theorem info_cand : (Try.prog.info? 22).map (fun i => (i.zero, i.size, i.bytes)) = some (some (.slice none 0 0), 1, 24) := by kernel_rfl
theorem may_start {w1 w4 w5 : World} {g m : Nat} {s : Sl} (hX : SX w1 g s [] w4) (hm : w4.heap.size ≤ m) (hB : Blk w5 m (List.replicate 5 (.slice none 0 0)) 37) (hb : Below w4.heap.size w4 w5) : OoRel2 w1 g m s (.int .i64 0) w5 := by
  refine ⟨0, [m], List.replicate 5 (.slice none 0 0, []), rfl, by omega, ?_, ⟨?_, by simp, fun y hy => ?_, fun y hy k hk => ?_, fun y hy x hx => ?_, fun y hy x hx => ?_, ?_⟩, by simp, fun k _ hk => ?_, fun k hk => by omega, fun y hy x hx => ?_⟩
  · have := hX.more (L := [m]) hb (by intro x hx; simp at hx; subst hx; exact ⟨hm, hB.lt⟩)
    simpa using this
  · rw [List.map_replicate]; exact hB
  · rw [List.eq_of_mem_replicate hy]; exact RO.nil _ _ _ _ _
  · rw [List.eq_of_mem_replicate hy] at hk; cases hk
  · rw [List.eq_of_mem_replicate hy] at hx; simp at hx
  · rw [List.eq_of_mem_replicate hy] at hx; simp at hx
  · refine List.pairwise_replicate.2 (.inr fun k hk => ?_)
    cases hk
  · rw [List.getElem?_replicate, if_pos hk]
  · rw [List.eq_of_mem_replicate hy] at hx; simp at hx
theorem ou64_of (n : Int) : ∃ u : Nat, IntKind.u64.wrap n = (u : Int) ∧ u < 18446744073709551616 := by
  rw [IntKind.wrap_u64]
  exact ⟨(n % 18446744073709551616).toNat, by omega, by omega⟩
theorem osec_of (i : Int) : ∃ kk : Nat, wrap64 ((IntKind.u64.wrap i).tmod 5) = (kk : Int) ∧ kk < 5 := by
  obtain ⟨u, hu, _⟩ := ou64_of i
  refine ⟨u % 5, ?_, by omega⟩
  rw [hu, show ((u : Int)).tmod 5 = ((u % 5 : Nat) : Int) from by rw [Int.tmod_eq_emod_of_nonneg (by omega)]; omega]
  unfold wrap64
  omega
theorem ob_in {X : List Nat} {w : World} {base n : Nat} {a : Option Addr} {c : Nat} {l : List UInt8} (h : OB w base 5 (.slice a n c) l) : l = [] ∨ ∀ x, a = some x → x.block ∈ X ++ (Value.slice a n c).ownBlock.toList := by
  obtain ⟨a', c', e, hbs, hof⟩ := h.bs
  simp only [Value.slice.injEq] at e
  obtain ⟨rfl, hn, rfl⟩ := e
  refine .inr fun x hx => ?_
  obtain ⟨h0, h1, _⟩ := hof x hx
  rw [hx]
  obtain ⟨b, off, spot⟩ := x
  dsimp only at h0 h1
  subst h0 h1
  simp [Value.ownBlock]
theorem ob_128 {w : World} {B : Nat} {v : Value} {p : List UInt8} (h : OB w B 5 v p) (hp : p.length = 128) : ∃ b c, v = .slice (some ⟨b, 0, none⟩) 128 c ∧ BS w (some ⟨b, 0, none⟩) c p ∧ B ≤ b ∧ b < w.heap.size ∧ 128 ≤ c := by
  obtain ⟨a, c, rfl, hbs, hof⟩ := h.bs
  obtain ⟨b, off, rfl, _⟩ := CS.at hbs (by simp [hp])
  obtain ⟨h1, _, h3, h4⟩ := hof _ rfl
  dsimp only at h1 h3 h4
  subst h1
  exact ⟨b, c, by rw [hp], hbs, h3, h4, by have := hbs.fit'; omega⟩
theorem bs_cell {w : World} {b c : Nat} {p : List UInt8} (h : BS w (some ⟨b, 0, none⟩) c p) (i : Nat) (hi : i < p.length) : w.cell? ⟨b, i, none⟩ = some (.int .u8 ((p.getD i 0).toNat : Int)) := by
  obtain ⟨b', off, e, hc⟩ := h.at (by omega)
  cases e
  have := hc i hi
  rw [Nat.zero_add] at this
  rw [this, List.getD_eq_getElem?_getD, List.getElem?_eq_getElem hi]
  rfl
def OoEnd (w1 : World) (g m : Nat) (wr : World) : Prop := ∃ (n : Nat) (s : Sl) (X : List Nat) (VS : List CandL), SX w1 g s X wr ∧ May wr w1.heap.size X m VS ∧ OthP n s VS
def OoRel4 (w1 : World) (g m : Nat) (s : Sl) (X : List Nat) (VS : List CandL) (iv : Value) (wr : World) : Prop := ∃ i : Nat, iv = .int .i64 (i : Int) ∧ i ≤ 5 ∧ SX w1 g s X wr ∧ May wr w1.heap.size X m VS
def OoRel5 (wo : World) (iv : Value) (wr : World) : Prop := ∃ j : Nat, iv = .int .i64 (j : Int) ∧ j ≤ 128 ∧ wo = wr
def OoRel6 (LY : List (Value × List UInt8)) (j : Nat) (b : UInt8) (wo : World) (bv iv : Value) (wr : World) : Prop := ∃ t : Nat, bv = .bool (anyL LY j b t) ∧ iv = .int .i64 (t : Int) ∧ t ≤ LY.length ∧ wo = wr
theorem off_old {w w1 : World} {a : Option Addr} {cap : Nat} {t : List UInt8} (h : BS w a cap t) (hs : w.heap.size ≤ w1.heap.size) : t = [] ∨ ∀ x, a = some x → x.block < w1.heap.size := by
  by_cases ht : t = []
  · exact .inl ht
  · obtain ⟨b, off, rfl, hc⟩ := CS.at h (by simpa using List.length_pos_iff.2 ht)
    have hlt := World.block_lt_of_cell? w ⟨b, off + 0, none⟩ (hc 0 _ (List.getElem?_eq_getElem (by simpa using List.length_pos_iff.2 ht)))
    refine .inr fun x hx => ?_
    cases hx
    exact Nat.lt_of_lt_of_le hlt hs
theorem row_below {w w' : World} {base n sz : Nat} {e : TypeId} {v : Value} {xs : List Value} (h : w.ownsRow base e sz v n xs) (hb : Below w.heap.size w w') : w'.ownsRow base e sz v n xs := ownsRow_x h fun k hk => hb.block k (by
  obtain ⟨_, cur, hc⟩ := row_kind h hk
  exact (Array.getElem?_eq_some_iff.1 hc).1)
theorem oo_step {w1 w8 wa w12 : World} {g m n k kk : Nat} {s s8 : Sl} {X : List Nat} {VS : List CandL} {vy v11 v12 : Value} {LY : List (Value × List UInt8)} {p : List UInt8}
    (hX : SX w1 g s8 X w8) (hM : May w8 w1.heap.size X m VS) (hP : OthP (k + 6) s VS) (hk5 : kk < 5) (hp : p.length ≤ 128) (hs : writeL s (kk : Int) p = (s8, 0)) (hy : VS[kk]? = some (vy, LY)) (hkn : k < n) (hk12 : k < 12)
    (hb : Below w8.heap.size w8 wa) (hx : OB wa w8.heap.size 5 v11 (pad p)) (hr : wa.ownsRow w1.heap.size 22 1 vy LY.length (LY.flatMap oV) → w12.ownsRow w1.heap.size 22 1 v12 (LY.length + 1) (LY.flatMap oV ++ [v11]))
    (hg : wa.grownBy w12 vy.ownBlock) (hv : v12.ownBlock = vy.ownBlock ∨ v12.ownBlock = some wa.heap.size) :
    OoRel3 w1 g m n (.int .i64 ((k : Int) + 1)) (w12.setCell ⟨m, kk, none⟩ v12) ∧ Blk w12 m (VS.map (·.1)) 37 := by
  have hyin := List.mem_of_getElem? hy
  have hr' := hr ((hM.keep (hX.keep hb)).row _ hyin)
  have hadd := hM.add (x := (v11, pad p)) (v' := v12) (wa := wa) (w' := w12) hb hX.2.size hX.lt hy (OB.base hx hX.2.size) (fun q hq => (World.ownsRow.lt hx q hq).1) hr' hg hv
  refine ⟨?_, hadd.2.2.2⟩
  have hX2 := (hX.more (L := v11.ownBlock.toList) hb (fun q hq => World.ownsRow.lt hx q (by simpa using hq))).grow (L := v12.ownBlock.toList) hadd.2.1
    (by
      intro q hq
      rcases List.mem_cons.1 hq with rfl | hq
      · exact List.mem_append_left _ hM.mX
      · exact List.mem_append_left _ (hM.rX _ hyin q (by simpa using hq)))
    (by
      intro q hq
      rcases hadd.2.2.1 q (by simpa using hq) with h | h
      · exact .inl (List.mem_append_left _ h)
      · exact .inr h)
  have hP2 := hP.write hk5 hp hy (x := (v11, pad p)) (v' := v12) rfl
  rw [hs] at hP2
  exact ⟨k + 1, s8, _, _, by go_num, hkn, hk12, hX2, hadd.1.wide (by simp), by rw [show k + 1 + 6 = k + 6 + 1 from by omega]; exact hP2⟩
theorem omin128 (n : Nat) : (if 128 < (n : Int) then 128 else (n : Int)) = ((min n 128 : Nat) : Int) := by split <;> omega

set_option maxRecDepth 20000 in
set_option maxHeartbeats 4000000 in
theorem slabOthers_walk (v0 : Value) (a1 : Option Addr) (c1 : Nat) (l1 : List UInt8) (cut : Int) (w : World) (h0 : RV Try.prog w 35 v0) (h1 : BS w a1 c1 l1) (hc : (Lit.int .i64 cut).wf = true) :
    Calls Try.prog 4 #[v0, .slice a1 l1.length c1, .int .i64 cut] w fun e w' => e = .returned (.bool true) ∧ Below w.heap.size w w' := by
  obtain ⟨a0, c0, l0, rfl, hok0, hcs0, hlc0⟩ := ops_open h0
  have hcutb := bounds_i64 hc
  have m0 : l0.length ≤ 9223372036854775807 := by have := hcs0.max; unfold maxLen at this; omega
  have Hok := hid hok0
  have Hcs := hid hcs0
  have F1 := hid h1
  obtain ⟨i0, hi, hz0, hz1, hz2⟩ := info_parts (show (Try.prog.info? 37).map (fun i => (i.zero, i.size, i.bytes)) = some (some (.slice none 0 0), 1, 24) from by kernel_rfl)
  have Hi := hid hi; have Hz0 := hid hz0; have Hz1 := hid hz1; have Hz2 := hid hz2
  clear h0 hc hok0 hcs0 h1 hlc0 hi hz0 hz1 hz2
  go_enter Try.func4, Try.ntmps4
  go_wp2_with fail
  refine (awake_calls w).mono ?_
  rintro e w1 ⟨rfl, hb1⟩
  have B1 := hid hb1
  clear hb1
  go_wp2_with fail
  refine (newslab_calls w1 5 (by decide)).mono ?_
  rintro e w2 ⟨g, d, rfl, hS, hb2⟩
  have X2 := hid (show SX w1 g (newL 5) [] w2 from ⟨⟨_, _, hS, by simp⟩, hb2⟩)
  clear hS hb2
  go_wp2_with fail
  go_loopw [32] (fun iv wr => OoRel1 w1 g iv wr) (fun iv _ => 5 - (intOf iv).toNat)
  case atStart => exact ⟨0, newL 5, rfl, by omega, X2.out, othQ_new⟩
  case round =>
    clear X2
    obtain ⟨i, s, rfl, hi5, hX, hQ⟩ := hrel
    have X := hid hX
    have Qs := hid hQ
    clear hX hQ
    by_cases hil : i < 5
    · have hil' : (i : Int) < 5 := by omega
      have hi8 : (i : Int) % 256 = (i : Int) := by omega
      have e7 : (#[.int .u8 (i : Int), .int .u8 7, .int .u8 7] : Array Value) = (([UInt8.ofNat i, 7, 7] : List UInt8).map u8v).toArray := by
        rw [show Value.int .u8 (i : Int) = u8v (UInt8.ofNat i) from (u8v_of' i (by omega)).symm]
        rfl
      have b7 := below_alloc wr (.cells #[.int .u8 (i : Int), .int .u8 7, .int .u8 7] 5)
      have hL : BS (wr.alloc (.cells #[.int .u8 (i : Int), .int .u8 7, .int .u8 7] 5)) (some ⟨wr.heap.size, 0, none⟩) 3 [UInt8.ofNat i, 7, 7] := by
        rw [e7]; exact lit_bs wr 5 [UInt8.ofNat i, 7, 7] (by simp [maxLen])
      have hW := sx_write w1 _ g s ([] ++ [wr.heap.size]) (i : Int) (some ⟨wr.heap.size, 0, none⟩) 3 3 [UInt8.ofNat i, 7, 7] (X.out.more b7 (by simp)) (by omega) hL rfl (by have := Qs.out.few; omega) (by have := Qs.out.few; omega) (.inr (by rintro x hx; cases hx; simp))
      have hQ := Qs.out.write hil (t := [UInt8.ofNat i, 7, 7]) (by simp)
      obtain ⟨⟨s4, e4⟩, hs4⟩ : ∃ Y, writeL s (i : Int) [UInt8.ofNat i, 7, 7] = Y := ⟨_, rfl⟩
      rw [hs4] at hW hQ
      have HW := hid hW
      have HQ := hid hQ
      clear hW hQ hs4 e7 hL b7
      go_wp2_with (go_at_call 10; go_loud (refine HW.out.mono ?_; rintro e w4 ⟨rfl, h4, k4⟩; have X4 := hid h4; clear h4 k4))
      have R : OoRel1 w1 g (.int .i64 ((i : Int) + 1)) w4 := ⟨i + 1, s4, by go_num, by omega, X4.out.less (by simp), HQ.out⟩
      refine ⟨?_, by simp [intOf]; omega⟩
      first | exact R | ((repeat apply Exists.intro); refine ⟨R, ?_⟩; and_intros <;> rfl)
    · obtain rfl : i = 5 := by omega
      have hil' : ¬ (((5 : Nat) : Int) < 5) := by omega
      obtain ⟨w3, rfl⟩ : ∃ w3 : World, w3 = wr := ⟨_, rfl⟩
      have hF := sx_flush w1 w3 g s [] X.out (by have := Qs.out.few; omega)
      have hFl := Qs.out.flush
      obtain ⟨⟨s4, e4⟩, hs4⟩ : ∃ Y, flushL s = Y := ⟨_, rfl⟩
      rw [hs4] at hF hFl
      have HF := hid hF
      have HFl := hid hFl
      clear hF hFl hs4
      go_upto_region 10 with (go_at_call 11; go_loud (refine HF.out.mono ?_; rintro e w4 ⟨rfl, h4, k4⟩; have X4 := hid h4; clear h4 k4))
      have hm0 : w4.heap.size ≤ w4.heap.size := Nat.le_refl _
      go_upto_region 11 with (at_make; go_must (refine wpList_make_full _ rfl (.const (.int .i64 5)) (.const (.int .i64 5)) _ rfl w4.heap.size 37 i0 (.slice none 0 0) 1 under_may Hi.out Hz0.out Hz1.out .i64 .i64 _ _ 5 rfl rfl (by omega) (by omega) (by rw [Hz2.out]; omega) (by unfold maxLen; omega) (Nat.le_refl _) ?_; intro w5 hown hgr))
      have hB := blk_of_owned (row_made _ (z := .slice none 0 0) rfl hown)
      have M5 := hid (may_start X4.out (Nat.le_refl _) hB (grownBy_below hgr (Nat.le_refl _) (by simp)))
      obtain ⟨m, hm⟩ : ∃ m, w4.heap.size = m := ⟨_, rfl⟩
      rw [hm] at M5 ⊢
      clear hm hB hown hgr hm0 X4 HF Qs X
      go_wp2_with fail
      go_loopw [45] (fun iv wr => OoRel2 w1 g m s4 iv wr) (fun iv _ => 5 - (intOf iv).toNat)
      case atStart => exact M5.out
      case round =>
        clear M5
        obtain ⟨i, X, VS, rfl, hi5, hX, hM, hvs, hnil, hms, hall⟩ := hrel
        have X := hid hX
        have Ms := hid hM
        have Hnil := hid hnil
        have Hms := hid hms
        have Hall := hid hall
        have Hvs := hid hvs
        clear hX hM hnil hms hall hvs
        obtain ⟨w6, hw6⟩ : ∃ w6 : World, w6 = wr := ⟨_, rfl⟩
        rw [← hw6] at X Ms ⊢
        clear hw6
        by_cases hil : i < 5
        · have hil' : (i : Int) < 5 := by omega
          have hR := sx_read w1 w6 g s4 _ (i : Int) X.out (by omega)
          rw [HFl.out.1.read HFl.out.2 hil] at hR
          have HR := hid hR
          have c0 := Ms.out.blk.free i
          clear hR
          go_upto_region 15 with (go_at_call 13; go_loud (refine HR.out.mono ?_; rintro e w7 ⟨v7, rfl, ho7, hb7⟩; have O7 := hid ho7; have B7 := hid hb7; clear ho7 hb7))
          clear c0
          obtain ⟨a7, n7, k7, e7, hn7, _, _⟩ := ob_n O7.out
          subst e7
          have bA := below_alloc w7 (.cells #[.slice a7 n7 k7] 22)
          have MA := hid (Ms.out.keep ((X.out.below (Below.refl _ _)).keep (B7.out.trans (bA.mono B7.out.size))))
          have cA := MA.out.blk.get i (by rw [List.getElem?_map, Hnil.out i (Nat.le_refl _) hil]; rfl)
          have fA := MA.out.blk.free i
          have hadd := Ms.out.add (x := (.slice a7 n7 k7, s4.done.getD i [])) (v' := .slice (some ⟨w7.heap.size, 0, none⟩) 1 1) (wa := w7) (w' := w7.alloc (.cells #[.slice a7 n7 k7] 22)) B7.out X.out.2.size X.out.lt (Hnil.out i (Nat.le_refl _) hil)
            (OB.base O7.out X.out.2.size) (fun q hq => (World.ownsRow.lt O7.out q hq).1)
            ⟨rfl, .inr ⟨w7.heap.size, 1, #[.slice a7 n7 k7], rfl, Nat.le_trans X.out.2.size B7.out.size, heap_alloc_new w7 _, Nat.le_refl _, by simp [maxLen], by simp, by simp [oV]⟩⟩
            (World.grownBy_alloc w7 _ none) (.inr rfl)
          have hX2 := (X.out.more (L := (Value.slice a7 n7 k7).ownBlock.toList) B7.out (fun q hq => World.ownsRow.lt O7.out q (by simpa using hq))).grow (L := [w7.heap.size]) (S := [m]) hadd.2.1 (by intro q hq; simp at hq; subst hq; simp [Ms.out.mX]) (by intro q hq; simp at hq; subst hq; exact .inr ⟨Nat.le_refl _, by simp⟩)
          have R : OoRel2 w1 g m s4 (.int .i64 ((i : Int) + 1)) ((w7.alloc (.cells #[.slice a7 n7 k7] 22)).setCell ⟨m, i, none⟩ (.slice (some ⟨w7.heap.size, 0, none⟩) 1 1)) := by
            refine ⟨i + 1, _, _, by go_num, by omega, hX2, hadd.1.wide (by simp [Value.ownBlock]), by rw [List.length_set]; exact Hvs.out, fun k h1 h2 => ?_, fun k h1 => ?_, fun y hy x hx => ?_⟩
            · rw [List.getElem?_set_ne (by omega)]; exact Hnil.out k (by omega) h2
            · rw [MS_set (Hnil.out i (Nat.le_refl _) hil)]
              by_cases e : i = k
              · subst e
                rw [if_pos rfl]
                unfold MS
                rw [List.getD_eq_getElem?_getD, Hnil.out i (Nat.le_refl _) hil]
                rfl
              · rw [if_neg e]; exact Hms.out k (by omega)
            · rcases List.mem_or_eq_of_mem_set hy with hy | rfl
              · exact Hall.out y hy x hx
              · simp at hx; subst hx
                exact HFl.out.1.sec _ (by show s4.done[i]?.getD [] ∈ s4.done; rw [List.getElem?_eq_getElem (by rw [HFl.out.1.len]; exact hil)]; exact List.getElem_mem _)
          have HR2 := hid R
          clear hadd hX2 R bA
          go_wp2_with fail
          refine ⟨?_, by simp [intOf]; omega⟩
          first | exact HR2.out | ((repeat apply Exists.intro); refine ⟨HR2.out, ?_⟩; and_intros <;> rfl)
        · obtain rfl : i = 5 := by omega
          have hil' : ¬ (((5 : Nat) : Int) < 5) := by omega
          have P0 := hid (show OthP (0 + 6) s4 VS from ⟨HFl.out.1, Hvs.out, Hall.out, fun k hk => by rw [Hms.out k hk]; simp, by rw [HFl.out.2]; simp, fun k hk => by rw [Hms.out k hk]; simp⟩)
          clear HFl Hnil Hms Hall Hvs Hi Hz0 Hz1 Hz2
          go_upto_block 4 with fail
          go_cut [] from 63 to 147 (fun w' => OoEnd w1 g m w')
          case first =>
            go_wp2_with fail
            go_loopw [62] (fun iv wr => OoRel3 w1 g m l0.length iv wr) (fun iv _ => l0.length - (intOf iv).toNat)
            case atStart => exact ⟨0, s4, _, VS, rfl, Nat.zero_le _, by omega, X.out, Ms.out, P0.out⟩
            case round =>
              clear X Ms P0
              obtain ⟨k, s, X, VS, rfl, hk, hk12, hX, hM, hP⟩ := hrel
              have X := hid hX
              have Ms := hid hM
              have Ps := hid hP
              clear hX hM hP
              obtain ⟨w6, hw6⟩ : ∃ w6 : World, w6 = wr := ⟨_, rfl⟩
              rw [← hw6] at X Ms ⊢
              clear hw6
              by_cases hgo : k < l0.length ∧ k < 12
              · obtain ⟨hkl, h12⟩ := hgo
                have Ho := hid (Hok.out _ (List.getElem_mem hkl))
                obtain ⟨bo, off, rfl, hc⟩ := cs_row opV_length Hcs.out hkl (by decide)
                have W5 := hid (B1.out.trans (X.out.2.mono B1.out.size))
                have d0 := cell_later W5.out (hc 0 _ rfl)
                have d1 := cell_later W5.out (hc 1 _ rfl)
                have d2 := cell_later W5.out (hc 2 _ rfl)
                clear hc
                generalize l0[k] = o at Ho d0 d1 d2
                have hkl' : (k : Int) < (l0.length : Int) := by omega
                have h12' : ¬ ((12 : Int) ≤ (k : Int)) := by omega
                rw [Nat.add_zero] at d0
                obtain ⟨dd, i, ao, co, t⟩ := o
                dsimp only at d0 d1 d2
                obtain ⟨hd, hi, ht⟩ := Ho.out
                dsimp only at hd hi ht
                have mt := ht.max'
                have Ht := hid ht
                obtain ⟨kt, hkt⟩ : ∃ kt, min t.length 128 = kt := ⟨_, rfl⟩
                have Hkt := hid ((omin128 t.length).trans (by rw [hkt]))
                have hkt2 : kt ≤ t.length ∧ kt ≤ co ∧ kt ≤ 128 := by have := ht.fit'; omega
                clear ht Ho hkt
                have hdd : (dd : Int) ≤ 255 := by omega
                have KQ := hid (blk_alloc w6 [.int .u8 (dd : Int), .int .i64 i, .slice ao t.length co] 39)
                have bq := below_alloc w6 (.cells #[.int .u8 (dd : Int), .int .i64 i, .slice ao t.length co] 39)
                have XQ := hid (X.out.below bq)
                have MQ := hid (Ms.out.keep (X.out.keep bq))
                have WQ := hid (W5.out.trans (bq.mono W5.out.size))
                go_upto_region 21 with fail
                clear d0 d1 d2 W5
                generalize (w6.alloc (.cells #[.int .u8 (dd : Int), .int .i64 i, .slice ao t.length co] 39)) = wq at KQ XQ MQ WQ bq ⊢
                obtain ⟨q, hq⟩ : ∃ q, w6.heap.size = q := ⟨_, rfl⟩
                rw [hq] at KQ ⊢
                clear hq bq X Ms
                have c1 := KQ.out.get 1 rfl
                have c2 := KQ.out.get 2 rfl
                have hkt' := Hkt.out
                go_upto_region 23 with fail
                clear hkt'
                obtain ⟨kk, hkk, hk5⟩ := osec_of i
                rw [hkk]
                have hkb : (kk : Int) ≤ 9223372036854775807 := by omega
                clear hkk Hkt c1 c2
                have Lt := hid (show (t.take kt).length = kt from by rw [List.length_take]; omega)
                have Pt := hid (show BS w ao co (t.take kt) from Ht.out.take kt)
                generalize t.take kt = p at Lt Pt
                have hpl : p.length ≤ 128 := by have := Lt.out; omega
                have HPL := hid hpl
                clear hpl Ht mt
                go_upto_region 23 with fail
                obtain ⟨⟨s8, e8⟩, hs8⟩ : ∃ Y, writeL s (kk : Int) p = Y := ⟨_, rfl⟩
                have he8 : e8 = 0 := by have := Ps.out.q.write_eq hk5 HPL.out; rw [hs8] at this; exact congrArg Prod.snd this
                have HS8 := hid hs8
                subst he8
                clear hs8
                go_upto_region 25 with (first | (at_builtin; go_must (refine wpList_append_lit0 (.tmp 83) (.tmp 84) _ rfl rfl 5 info_u8 under_bytes (show _ = Value.slice (some ⟨_, 0, none⟩) 0 0 from rfl) (Pt.out.below WQ.out) kt Lt.out rfl (by rw [Lt.out]; omega) ?_; intro v7 w7 ho hb; obtain ⟨am, cm, e3, hbs, hof⟩ := ho.bs; rw [Lt.out] at e3; subst e3; have Om := hid ho; have B7 := hid hb; have A7 := hid hbs; clear hbs hof hb ho; have X7 := hid (XQ.out.more (L := (Value.slice am kt cm).ownBlock.toList) B7.out (fun y hy => World.ownsRow.lt Om.out y (by simpa using hy))))) | (go_at_call 10; go_loud (refine (sx_write w1 w7 g s _ (kk : Int) am kt cm p X7.out (by omega) A7.out Lt.out (by have := Ps.out.q.few; omega) (by have := Ps.out.q.few; omega) (ob_in Om.out)).mono ?_; rw [HS8.out]; rintro e w8 ⟨rfl, h8, k8⟩; have X8 := hid h8; have K8 := hid k8; clear h8 k8)))
                have M8 := hid (((MQ.out.keep (XQ.out.keep B7.out)).wide (Y := X ++ (Value.slice am kt cm).ownBlock.toList) (fun y hy => List.mem_append_left _ hy)).keep K8.out)
                obtain ⟨⟨vy, LY⟩, hy⟩ : ∃ y, VS[kk]? = some y := ⟨_, List.getElem?_eq_getElem (by rw [Ps.out.vs]; exact hk5)⟩
                have hyin := List.mem_of_getElem? hy
                have hro := M8.out.row _ hyin
                obtain ⟨ay, ny, cy, ey, hny, _, _⟩ := hro.cs
                dsimp only at ey hny
                subst ey
                have hly : LY.length ≤ k + 6 := by
                  have h := Ps.out.few kk hk5
                  unfold MS at h
                  rw [List.getD_eq_getElem?_getD, hy] at h
                  simpa using h
                have cm8 := M8.out.blk.get kk (by rw [List.getElem?_map, hy]; rfl)
                dsimp only at cm8
                have lm8 := M8.out.blk.lt
                have W8b := hid (B1.out.trans (X8.out.2.mono B1.out.size))
                have RW := hid (show w8.ownsRow w1.heap.size 22 1 (.slice ay ny cy) ny (LY.flatMap oV) from by rw [show ny = LY.length from hny.symm] at hro ⊢; exact hro)
                have HY := hid hy
                have HLY := hid hly
                have hkt128 : (kt : Int) ≤ 128 := by omega
                clear hy hyin hro hly KQ
                have hny' : (ny : Int) ≤ 100 := by have := HLY.out; omega
                have hk5' : (kk : Int) < 5 := by omega
                have fm8 := M8.out.blk.free kk
                have lw8 := X8.out.2.size
                have hw128 : IntKind.i64.wrap (128 - (kt : Int)) = 128 - (kt : Int) := IntWalk.i64_in _ (by omega)
                go_region_law (first
                  | (refine step_ok rfl ?_; refine opOk_append_lit0n (.tmp 94) (.tmp 95) _ 5 rfl info_u8 under_bytes w8.heap.size rfl (blk_alloc w8.drew [] 5) (((Pt.out.below W8b.out).below (below_drew _)).below (below_alloc _ _)) Lt.out rfl (by rw [Lt.out]; omega) w8.heap.size (Nat.le_refl _) ?_; intro v10 w10 ho10 hb10; obtain ⟨a10, n10, c10, rfl, hl10, _, _⟩ := ob_n ho10; have O10 := hid ho10; have hbW : Below w8.heap.size w8 (w8.drew.alloc (.cells #[] 5)) := (below_drew w8).trans ((below_alloc w8.drew _).mono (Nat.le_refl _)); have B10 := hid (hbW.trans (hb10.mono hbW.size)); have r10 := (show w10.cell? ⟨m, kk, none⟩ = some (.slice ay ny cy) from (M8.out.blk.below B10.out).get kk (by rw [List.getElem?_map, HY.out]; rfl)); have l10 : m < w10.heap.size := Nat.lt_of_lt_of_le lm8 B10.out.size; clear ho10 hb10 hbW hl10)
                  | (refine step_ok rfl ?_; refine opOk_append_zeros_b (.tmp 96) (.tmp 99) 22 3 rfl w8.heap.size 5 .i64 info_u8 under_bytes (by kernel_rfl) _ p O10.out rfl (128 - kt) (show _ = Value.int .i64 (((128 - kt : Nat)) : Int) from congrArg (Value.int .i64) (by omega)) (by rw [Lt.out]; omega) B10.out.size ?_; intro v11 w11 ho11 hg11 hx11; obtain ⟨a11, n11, c11, rfl, hl11, _, _⟩ := ob_n ho11; have O11 := hid ho11; have B11 := hid (B10.out.trans (grownBy_below hg11 B10.out.size O10.out.ownBlock)); have r11 := (show w11.cell? ⟨m, kk, none⟩ = some (.slice ay ny cy) from (M8.out.blk.below B11.out).get kk (by rw [List.getElem?_map, HY.out]; rfl)); have l11 : m < w11.heap.size := Nat.lt_of_lt_of_le lm8 B11.out.size; clear ho11 hg11 hx11 hl11)
                  | (refine step_ok rfl ?_; refine opOk_append (.tmp 93) (.tmp 101) 37 rfl w1.heap.size 22 (.slice none 0 0) 1 24 info_cand rfl (by decide) under_cand (.slice ay ny cy) ny (LY.flatMap oV) rfl (row_below (row_below RW.out B11.out) (below_alloc w11 (.cells #[.slice a11 n11 c11] 22))) ⟨w11.heap.size, 0, none⟩ 1 1 [.slice a11 n11 c11] rfl rfl (fun j u hu => by rw [Addr.add_mid, Nat.zero_add]; exact (blk_alloc w11 [.slice a11 n11 c11] 22).get j hu) (by intro u hu; simp at hu; subst hu; rfl) (by unfold maxLen; omega) (by omega) (Nat.le_trans lw8 (Nat.le_trans B11.out.size (below_alloc w11 _).size)) ?_; intro v12 w12 hr12 hg12 hv12; obtain ⟨a12, c12, rfl⟩ := row_slice hr12; have HST := hid (oo_step (n := l0.length) X8.out M8.out Ps.out hk5 HPL.out HS8.out HY.out hkl (by omega) (B11.out.trans ((below_alloc w11 (.cells #[.slice a11 n11 c11] 22)).mono B11.out.size)) ((show p ++ List.replicate (128 - kt) 0 = pad p from by unfold pad; rw [Lt.out]) ▸ (O11.out.below (below_alloc w11 (.cells #[.slice a11 n11 c11] 22)))) (fun _ => by rw [hny]; exact hr12) hg12 hv12); clear hr12 hg12 hv12; have c14 := HST.out.2.get kk (by rw [List.getElem?_map, HY.out]; rfl); have f14 := HST.out.2.free kk))
                all_goals
                  go_wp2_with fail
                  refine ⟨?_, by simp [intOf]; omega⟩
                  first | exact HST.out.1 | ((repeat apply Exists.intro); refine ⟨HST.out.1, ?_⟩; and_intros <;> rfl)
              · by_cases hkl : k < l0.length
                · have Ho := hid (Hok.out _ (List.getElem_mem hkl))
                  obtain ⟨bo, off, rfl, hc⟩ := cs_row opV_length Hcs.out hkl (by decide)
                  have W5 := hid (B1.out.trans (X.out.2.mono B1.out.size))
                  have d0 := cell_later W5.out (hc 0 _ rfl)
                  have d1 := cell_later W5.out (hc 1 _ rfl)
                  have d2 := cell_later W5.out (hc 2 _ rfl)
                  clear hc
                  generalize l0[k] = o at Ho d0 d1 d2
                  have hkl' : (k : Int) < (l0.length : Int) := by omega
                  have h12' : (12 : Int) ≤ (k : Int) := by omega
                  rw [Nat.add_zero] at d0
                  obtain ⟨dd, i, ao, co, t⟩ := o
                  dsimp only at d0 d1 d2
                  have bq := below_alloc w6 (.cells #[.int .u8 (dd : Int), .int .i64 i, .slice ao t.length co] 39)
                  have HEnd := hid (show OoEnd w1 g m (w6.alloc (.cells #[.int .u8 (dd : Int), .int .i64 i, .slice ao t.length co] 39)) from ⟨_, s, _, VS, X.out.below bq, Ms.out.keep (X.out.keep bq), Ps.out⟩)
                  clear bq
                  go_wp2_with fail
                  go_meet
                  first | exact HEnd.out | ((repeat apply Exists.intro); refine ⟨HEnd.out, ?_⟩; and_intros <;> rfl)
                · have hkl' : ¬ ((k : Int) < (l0.length : Int)) := by omega
                  have HEnd := hid (show OoEnd w1 g m w6 from ⟨_, s, _, VS, X.out, Ms.out, Ps.out⟩)
                  go_wp2_with fail
                  go_meet
                  first | exact HEnd.out | ((repeat apply Exists.intro); refine ⟨HEnd.out, ?_⟩; and_intros <;> rfl)
          case rest =>
            clear X Ms P0
            obtain ⟨nn, s, X, VS, hX, hM, hP⟩ := hcut
            have hoff := off_old F1.out B1.out.size
            have hC := sx_crash w1 wc g s X a1 c1 l1 cut hX (F1.out.below (B1.out.trans (hX.2.mono B1.out.size))) hoff hcutb
            have hcr := hP.crash l1 cut
            obtain ⟨s9, hs9⟩ : ∃ s9, crashL s l1 cut = s9 := ⟨_, rfl⟩
            rw [hs9] at hC hcr
            have HC := hid hC
            have HCR := hid hcr
            have HV := hid (And.intro hP.vs hP.all)
            have M0 := hid hM
            have X0 := hid hX
            clear hC hcr hs9 hX hM hP hoff
            go_upto_region 28 with (go_at_call 12; go_loud (refine HC.out.mono ?_; rintro e w9 ⟨rfl, h9, k9⟩; have X9 := hid h9; have M9 := hid (M0.out.keep k9); clear h9 k9))
            clear HC M0 X0
            go_wp2_with fail
            go_loopw [109] (fun iv wr => OoRel4 w1 g m s9 X VS iv wr) (fun iv _ => 5 - (intOf iv).toNat)
            case atStart => exact ⟨0, rfl, by omega, X9.out, M9.out⟩
            case round =>
              clear X9 M9
              obtain ⟨i, rfl, hi5, hX, hM⟩ := hrel
              have X9 := hid hX
              have M9 := hid hM
              clear hX hM
              obtain ⟨w6, hw6⟩ : ∃ w6 : World, w6 = wr := ⟨_, rfl⟩
              rw [← hw6] at X9 M9 ⊢
              clear hw6
              by_cases hil : i < 5
              · have hil' : (i : Int) < 5 := by omega
                have hR := sx_read w1 w6 g s9 _ (i : Int) X9.out (by omega)
                rw [HCR.out.1.read HCR.out.2.1 hil] at hR
                obtain ⟨p, hp⟩ : ∃ p, s9.done.getD i [] = p := ⟨_, rfl⟩
                have hpl : p.length = 128 := by rw [← hp]; exact HCR.out.1.sec _ (by show s9.done[i]?.getD [] ∈ s9.done; rw [List.getElem?_eq_getElem (by rw [HCR.out.1.len]; exact hil)]; exact List.getElem_mem _)
                have hmix := HCR.out.2.2 i hil
                rw [hp] at hR hmix
                obtain ⟨⟨vy, LY⟩, hy⟩ : ∃ y, VS[i]? = some y := ⟨_, List.getElem?_eq_getElem (by rw [HV.out.1]; exact hil)⟩
                have hms : MS VS i = LY.map (·.2) := by unfold MS; rw [List.getD_eq_getElem?_getD, hy]; rfl
                rw [hms] at hmix
                have HR := hid hR
                have HPL := hid hpl
                have HMX := hid hmix
                have HY := hid hy
                clear hR hp hpl hmix hms hy
                go_upto_region 32 with (go_at_call 13; go_loud (refine HR.out.mono ?_; rintro e w7 ⟨v7, rfl, ho7, hb7⟩; have O7 := hid ho7; have B7 := hid hb7; clear ho7 hb7))
                have X7 := hid (X9.out.below B7.out)
                have M7 := hid (M9.out.keep (X9.out.keep B7.out))
                obtain ⟨bp, cp, ep, hbp, _, _, _⟩ := ob_128 O7.out HPL.out
                subst ep
                have BP := hid hbp
                clear hbp HR
                go_wp2_with fail
                go_loopw [120] (fun iv wr => OoRel5 w7 iv wr) (fun iv _ => 128 - (intOf iv).toNat)
                case atStart => exact ⟨0, rfl, by omega, rfl⟩
                case round =>
                  obtain ⟨j, rfl, hj, rfl⟩ := hrel
                  by_cases hjl : j < 128
                  · have hjl' : (j : Int) < 128 := by omega
                    have cj := bs_cell BP.out j (by rw [HPL.out]; exact hjl)
                    obtain ⟨bb, hbb⟩ : ∃ bb, p.getD j 0 = bb := ⟨_, rfl⟩
                    rw [hbb] at cj
                    have hpj : p[j]? = some bb := by rw [← hbb, List.getD_eq_getElem?_getD, List.getElem?_eq_getElem (by rw [HPL.out]; exact hjl)]; rfl
                    have hany := anyL_all HMX.out hpj
                    have HAny := hid hany
                    have hbn : (bb.toNat : Int) ≤ 255 := by have := bb.toNat_lt; omega
                    have hro := M7.out.row _ (List.mem_of_getElem? HY.out)
                    obtain ⟨ay, ny, cy, ey, hny, hnc, hcy⟩ := hro.cs
                    dsimp only at ey hny hcy
                    have cm := M7.out.blk.get i (by rw [List.getElem?_map, HY.out]; rfl)
                    dsimp only at cm
                    rw [ey] at cm
                    have mny := hcy.max
                    have hnyb : (ny : Int) ≤ 9223372036854775807 := by unfold maxLen at mny; omega
                    have HCY := hid hcy
                    clear hbb hpj hany hro hcy mny hnc
                    go_wp2_with fail
                    clear cm cj
                    go_loopw [23, 130] (fun bv iv wr => OoRel6 LY j bb w7 bv iv wr) (fun _ iv _ => LY.length - (intOf iv).toNat)
                    case atStart => exact ⟨0, by simp [anyL], rfl, Nat.zero_le _, rfl⟩
                    case round =>
                      obtain ⟨t, rfl, rfl, ht, rfl⟩ := hrel
                      by_cases htl : t < LY.length
                      · have htl' : (t : Int) < (ny : Int) := by omega
                        obtain ⟨bo, off, rfl, hc⟩ := cs_row oV_length HCY.out htl (by decide)
                        have d0 := hc 0 _ rfl
                        rw [Nat.add_zero, Nat.mul_one] at d0
                        have hsucc := anyL_succ (j := j) (b := bb) htl
                        have hox := M7.out.mem _ (List.mem_of_getElem? HY.out) _ (List.getElem_mem htl)
                        have hlx := HV.out.2 _ (List.mem_of_getElem? HY.out) _ (List.getElem_mem htl)
                        generalize LY[t] = x at d0 hsucc hox hlx
                        obtain ⟨vx, q⟩ := x
                        dsimp only at d0 hsucc hox hlx
                        obtain ⟨bq, cq, eq, hbq, _, _, _⟩ := ob_128 hox hlx
                        subst eq
                        have cqj := bs_cell hbq j (by rw [hlx]; exact hjl)
                        have hqj : q[j]? = some (q.getD j 0) := by rw [List.getD_eq_getElem?_getD, List.getElem?_eq_getElem (by rw [hlx]; exact hjl)]; rfl
                        rw [hqj] at hsucc
                        generalize q.getD j 0 = qb at cqj hsucc
                        have hqn : (qb.toNat : Int) ≤ 255 := by have := qb.toNat_lt; omega
                        obtain ⟨A, hA⟩ : ∃ A, anyL LY j bb t = A := ⟨_, rfl⟩
                        rw [hA] at hsucc ⊢
                        have HSU := hid hsucc
                        clear hsucc hox hlx hbq hqj hc hA
                        cases A
                        · by_cases hq : qb = bb
                          · have e1 : ((qb.toNat : Int) == (bb.toNat : Int)) = true := by rw [hq]; simp
                            have R : OoRel6 LY j bb w7 (.bool true) (.int .i64 ((t : Int) + 1)) w7 := ⟨t + 1, by rw [HSU.out, hq]; simp, by go_num, htl, rfl⟩
                            have HR9 := hid R
                            clear R hq
                            go_wp2_with fail
                            refine ⟨?_, by simp [intOf]; omega⟩
                            first | exact HR9.out | ((repeat apply Exists.intro); refine ⟨HR9.out, ?_⟩; and_intros <;> rfl)
                          · have e1 : ((qb.toNat : Int) == (bb.toNat : Int)) = false := by
                              rw [beq_eq_false_iff_ne]
                              intro h
                              exact hq (UInt8.toNat_inj.1 (by omega))
                            have R : OoRel6 LY j bb w7 (.bool false) (.int .i64 ((t : Int) + 1)) w7 := ⟨t + 1, by rw [HSU.out]; simp [hq], by go_num, htl, rfl⟩
                            have HR9 := hid R
                            clear R hq
                            go_wp2_with fail
                            refine ⟨?_, by simp [intOf]; omega⟩
                            first | exact HR9.out | ((repeat apply Exists.intro); refine ⟨HR9.out, ?_⟩; and_intros <;> rfl)
                        · have R : OoRel6 LY j bb w7 (.bool true) (.int .i64 ((t : Int) + 1)) w7 := ⟨t + 1, by rw [HSU.out]; rfl, by go_num, htl, rfl⟩
                          have HR9 := hid R
                          clear R
                          go_wp2_with fail
                          refine ⟨?_, by simp [intOf]; omega⟩
                          first | exact HR9.out | ((repeat apply Exists.intro); refine ⟨HR9.out, ?_⟩; and_intros <;> rfl)
                      · obtain ⟨z, hz1, hz2⟩ : ∃ z, z = t ∧ z = LY.length := ⟨t, rfl, by omega⟩
                        subst hz1
                        have htl' : ¬ ((z : Int) < (ny : Int)) := by omega
                        rw [hz2, HAny.out]
                        rw [hz2] at htl'
                        clear hz2
                        go_wp2_with fail
                        have R : OoRel5 w7 (.int .i64 ((j : Int) + 1)) w7 := ⟨j + 1, by go_num, hjl, rfl⟩
                        refine ⟨?_, by simp [intOf]; omega⟩
                        first | exact R | ((repeat apply Exists.intro); refine ⟨R, ?_⟩; and_intros <;> rfl)
                  · obtain rfl : j = 128 := by omega
                    have hjl' : ¬ (((128 : Nat) : Int) < 128) := by omega
                    go_wp2_with fail
                    have R : OoRel4 w1 g m s9 X VS (.int .i64 ((i : Int) + 1)) w7 := ⟨i + 1, by go_num, hil, X7.out, M7.out⟩
                    refine ⟨?_, by simp [intOf]; omega⟩
                    first | exact R | ((repeat apply Exists.intro); refine ⟨R, ?_⟩; and_intros <;> rfl)
              · obtain rfl : i = 5 := by omega
                have hil' : ¬ (((5 : Nat) : Int) < 5) := by omega
                go_wp2_with fail
                go_ret
                exact ⟨rfl, B1.out.trans (X9.out.2.mono B1.out.size)⟩
end Go.Proofs.Ytoegnlabneafkaa
