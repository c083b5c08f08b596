/- The walks of layer 4: the document's row: so many numbers, and a text. -/
import Derived.Test.YtmmcmldcbdaooaaDoorNoteQ
import Derived.Test.YtmmcmldcbdaooaaDoorNoteH
import Derived.Test.YtmmcmldcbdaooaaDoorInkD
namespace Go.Proofs.YtmmcmldcbdaooaaDoor
open Go.RowKit Go.Quad _root_.Quad _root_.Quad.Ink

def urV (n : Nat) : List Value := [.int .u64 (n : Int)]
theorem urV_length (n : Nat) : (urV n).length = 1 := rfl
theorem urV_one (n : Nat) : ∀ u ∈ urV n, u.oneCell' = true := by intro u hu; simp [urV] at hu; subst hu; rfl
theorem under_u64s : Tryd.prog.underlying 102 = some (.slice 74) := by kernel_rfl
theorem info_u64 : (Tryd.prog.info? 74).map (fun i => (i.zero, i.size, i.bytes)) = some (some (.int .u64 0), 1, 8) := by kernel_rfl

theorem REyeAt.chg {S : List Nat} {w w' : World} {g A : Nat} {p : List UInt8} {bad : Bool} (h : REyeAt w g A p bad) (hc : Chg S w w') (hg : g ∉ S) (hA : A ∉ S) : REyeAt w' g A p bad := by
  obtain ⟨a, cap, h⟩ := h
  exact ⟨a, cap, h.own.keep hc hg, h.loc.row h.row hc (fun _ => hA), h.loc⟩

/-- what a row holds, or the error -/
def rowR (t : List UInt8) (n : Nat) (tx : Bool) : List Nat × List UInt8 × Int :=
  if (if tx then textS (numsS n (t, false)).2 else ([], (numsS n (t, false)).2)).2 = ([], false)
    then ((numsS n (t, false)).1, (if tx then textS (numsS n (t, false)).2 else ([], (numsS n (t, false)).2)).1, 0)
    else ([], [], 4)
def rowL (p : List UInt8) (n : Nat) (tx : Bool) : List Nat × List UInt8 × Int :=
  if (untieL p).2 ≠ 0 then ([], [], (untieL p).2) else rowR (untieL p).1 n tx

theorem end_eq (s : St) : (!s.2 && decide (s.1.length = 0)) = decide (s = ([], false)) := by
  obtain ⟨p, b⟩ := s
  cases p <;> cases b <;> simp

def RowTo (w : World) (r : List Nat × List UInt8 × Int) (e : Ending) (w' : World) : Prop :=
  ∃ lv a c, e = .returned (.tuple #[lv, .slice a r.2.1.length c, .int .i64 r.2.2]) ∧ RO urV 1 w' w.heap.size 74 lv r.1 ∧ BS w' a c r.2.1 ∧ NewAt w.heap.size w' a ∧ Below w.heap.size w w'

theorem numsS_next (k : Nat) (s : St) : numsS (k + 1) s = ((numsS k s).1 ++ [(numS (numsS k s).2).1], (numS (numsS k s).2).2) := by
  rw [numsS_append k 1]; rfl
theorem numsS_st_len : ∀ (k : Nat) (s : St), (numsS k s).2.1.length ≤ s.1.length
  | 0, _ => Nat.le_refl _
  | k + 1, s => by rw [numsS]; exact Nat.le_trans (numsS_st_len k _) (numS_len s)

def RowRel (w : World) (g A B n : Nat) (s0 : St) (pv iv : Value) (wr : World) : Prop :=
  ∃ k : Nat, iv = .int .i64 (k : Int) ∧ k ≤ n ∧ REyeAt wr g A (numsS k s0).2.1 (numsS k s0).2.2 ∧ RO urV 1 wr B 74 pv (numsS k s0).1 ∧ Below w.heap.size w wr ∧ B ≤ wr.heap.size

theorem row_bad (w w' : World) (c : Int) (hb : Below w.heap.size w w') : RowTo w ([], [], c) (.returned (.tuple #[.slice none 0 0, .slice none 0 0, .int .i64 c])) w' :=
  ⟨_, none, 0, rfl, RO.nil _ _ _ _ _, BS.nil _, NewAt.none _ _, hb⟩

set_option maxRecDepth 100000 in
set_option maxHeartbeats 4000000 in
theorem row_calls (a : Option Addr) (c N n : Nat) (tx : Bool) (p : List UInt8) (w : World) (h : BS w a c p) (hN : p.length = N) (hl : p.length ≤ 1000000) (hn : n ≤ 1000) :
    Calls Tryd.prog 67 #[.slice a N c, .int .i64 (n : Int), .bool tx] w (RowTo w (rowL p n tx)) := by
  have hC := refnext_calls a c p w h hl
  rw [hN] at hC
  have hok := @nextL_ok p
  have hcd := nextL_codes p
  have hr0 : rowL p n tx = rowL p n tx := rfl
  conv at hr0 => rhs; unfold rowL untieL
  rw [hr0]
  clear hr0
  generalize nextL p = q at hC hok hcd ⊢
  obtain ⟨t, r, cd⟩ := q
  dsimp only at hcd ⊢
  have hn' : (n : Int) ≤ 1000 := by omega
  have HC := hid hC
  clear hC
  by_cases h0 : cd = 0
  case' neg =>
    obtain ⟨rfl, rfl, hq⟩ := hcd.resolve_left h0
    rw [if_neg h0, if_pos (show (([] : List UInt8), cd).2 ≠ 0 from h0)]
    have hq0 : (cd == 0) = false := by simpa using h0
    clear hok hq hcd h0
    go_enter Tryd.func67, Tryd.ntmps67
    go_wp2_with fail
    refine HC.out.mono ?_
    rintro e w1 ⟨v1, v2, rfl, ho1, ho2, hb⟩
    have B1 := hid hb
    clear ho1 ho2 hb
    dsimp only
    go_wp2_with fail
    go_ret3
    exact row_bad _ _ _ B1.out
  subst h0
  simp only [if_true]
  clear hcd
  by_cases hr : 0 < r.length
  · rw [if_pos hr, if_pos (show (([] : List UInt8), (4 : Int)).2 ≠ 0 from by decide)]
    have hr' : (0 : Int) < (r.length : Int) := by omega
    clear hok
    go_enter Tryd.func67, Tryd.ntmps67
    go_wp2_with fail
    refine HC.out.mono ?_
    rintro e w1 ⟨v1, v2, rfl, ho1, ho2, hb⟩
    obtain ⟨a2, n2, c2, rfl, hn2, _, _⟩ := ob_n ho2
    dsimp only at hn2
    rw [hn2] at hr'
    have B1 := hid hb
    clear ho1 ho2 hb hr
    dsimp only
    go_wp2_with fail
    go_ret3
    exact row_bad _ _ _ B1.out
  rw [if_neg hr, if_neg (show ¬ ((t, (0 : Int)).2 ≠ 0) from by simp)]
  obtain rfl : r = [] := List.eq_nil_of_length_eq_zero (by omega)
  have ht := (hok rfl).1
  dsimp only
  obtain ⟨res, hres⟩ : ∃ res, rowR t n tx = res := ⟨_, rfl⟩
  rw [hres]
  have Hres := hid hres
  clear hok hr hres
  go_enter Tryd.func67, Tryd.ntmps67
  go_wp2_with fail
  refine HC.out.mono ?_
  rintro e w1 ⟨v1, v2, rfl, ho1, ho2, hb⟩
  obtain ⟨a1, n1, c1, rfl, hn1, hs1, hx1⟩ := ob_n ho1
  obtain ⟨a2, n2, c2, rfl, hn2, _, _⟩ := ob_n ho2
  dsimp only at hn1 hn2 hs1
  rw [List.length_nil] at hn2
  subst hn2
  have B1 := hid hb
  have S1 := hid hs1
  have N1 := hid hn1
  obtain ⟨A, hA, hAl⟩ : ∃ A, (t = [] ∨ ∃ off, a1 = some ⟨A, off, none⟩) ∧ (A = 0 ∨ A < w1.heap.size) := by
    rcases Nat.eq_zero_or_pos t.length with h0 | h0
    · exact ⟨0, .inl (List.eq_nil_of_length_eq_zero h0), .inl rfl⟩
    · obtain ⟨b, off, rfl, _⟩ := hs1.at (by simpa using h0)
      exact ⟨b, .inr ⟨off, rfl⟩, .inr (hx1 _ rfl).2.2.2⟩
  have hAne : t = [] ∨ (A ≠ w1.heap.size ∧ ∃ off, a1 = some ⟨A, off, none⟩) := by
    rcases hA with h1 | ⟨off, rfl⟩
    · exact .inl h1
    · exact .inr ⟨by have := (hx1 _ rfl).2.2.2; dsimp only at this; omega, off, rfl⟩
  have HA := hid (show A < w1.heap.size + 1 from by omega)
  have HL := hid hAne
  clear ho1 ho2 hb hs1 hn1 hx1 hA hAl hAne HC
  dsimp only
  go_upto_region 7 with fail
  have E2 := hid (show REyeAt (w1.alloc (.cells #[.slice a1 n1 c1, .bool false] 129)) w1.heap.size A t false from ⟨a1, c1, by
    have := blk_alloc w1 [.slice a1 n1 c1, .bool false] 129
    rw [N1.out]
    exact this, S1.out.below (below_alloc w1 _), HL.out⟩)
  have B2 := hid (B1.out.trans ((below_alloc w1 (.cells #[.slice a1 n1 c1, .bool false] 129)).mono B1.out.size))
  have G2 := hid (show (w1.alloc (.cells #[.slice a1 n1 c1, .bool false] 129)).heap.size = w1.heap.size + 1 from by simp)
  have GW := hid B1.out.size
  generalize w1.alloc (.cells #[.slice a1 n1 c1, .bool false] 129) = w2 at E2 B2 G2 ⊢
  generalize w1.heap.size = g at E2 G2 HA HL GW ⊢
  clear S1 N1 B1 HL
  have HT := hid ht
  clear ht
  go_wp2_with fail
  go_loopw [13, 32] (fun pv iv wr => RowRel w g A (g + 1) n (t, false) pv iv wr) (fun _ iv _ => n - (intOf iv).toNat)
  case atStart => exact ⟨0, rfl, Nat.zero_le _, E2.out, RO.nil _ _ _ _ _, B2.out, by rw [G2.out]; omega⟩
  case round =>
    clear E2 B2 G2
    obtain ⟨k, rfl, hk, he, ho, hb, hg⟩ := hrel
    have E := hid he
    have O := hid ho
    have B := hid hb
    have G := hid hg
    clear he ho hb hg
    by_cases hlt : k < n
    · have hlt' : (k : Int) < (n : Int) := by omega
      have HX := hid (numsS_next k (t, false))
      have HLn := hid (numsS_len k (t, false))
      generalize numsS k (t, false) = s at E O HX HLn
      have hn0 := numS_lt s.2
      go_wp2_with fail
      refine (rnum_calls wr g A s.2 E.out).mono ?_
      rintro e w3 ⟨rfl, hE, hch⟩
      have hO := RO.chg O.out hch (by intro q hq; have := (RO.ownBlock O.out q hq).1; simp; omega)
      have hB := B.out.trans (hch.below (B := w.heap.size) B.out.size (by have := GW.out; simp; omega))
      have hG := Nat.le_trans G.out hch.size
      generalize (numS s.2).1 = x at HX hn0 ⊢
      have Src : Kept (∀ W : World, W.heap.size = w3.heap.size → CS (W.alloc (.cells #[.int .u64 (x : Int)] 74)) (some ⟨w3.heap.size, 0, none⟩) 1 1 [.int .u64 (x : Int)]) := ⟨fun W hW => by rw [← hW]; exact cs_lit W [.int .u64 (x : Int)] 74 1 1 rfl (by simp [maxLen])⟩
      have Oa := hid (RO.below hO (below_alloc w3 (.cells #[.int .u64 (x : Int)] 74)))
      have Ea := hid (hE.below (below_alloc w3 (.cells #[.int .u64 (x : Int)] 74)))
      have Ba := hid (hB.trans ((below_alloc w3 (.cells #[.int .u64 (x : Int)] 74)).mono hB.size))
      have Ga := hid (show g + 1 ≤ (w3.alloc (.cells #[.int .u64 (x : Int)] 74)).heap.size from by simp; omega)
      obtain ⟨ap, np, cp, rfl, _, _, _⟩ := RO.cs O.out
      clear hE hO hB hG hch hn0
      go_wp2_with (at_builtin; go_must (refine wpList_append_ro urV_length urV_one (by decide) (.tmp 36) (.tmp 38) _ rfl rfl (g + 1) 74 _ 8 info_u64 rfl under_u64s _ _ Oa.out rfl (l' := [x]) rfl (Src.out _ (by simp)) (Nat.le_refl _) rfl (by have := HLn.out; simp; omega) Ga.out ?_; intro v6 w6 ho6 hb6 hg6 _; have O6 := hid ho6; have B6 := hid (Ba.out.trans (hb6.mono (by have := GW.out; omega))); have G6 := hid (Nat.le_trans Ga.out hb6.size); have E6 := hid (REyeAt.chg Ea.out (chg_grown hg6) (by intro hm; have := (RO.ownBlock Oa.out g (by simpa using hm)).1; omega) (by intro hm; have := (RO.ownBlock Oa.out A (by simpa using hm)).1; have := HA.out; omega)); clear ho6 hb6 hg6))
      have R : RowRel w g A (g + 1) n (t, false) v6 (.int .i64 ((k : Int) + 1)) w6 := ⟨k + 1, by go_num, hlt, by rw [HX.out]; exact E6.out, by rw [HX.out]; exact O6.out, B6.out, G6.out⟩
      refine ⟨?_, by simp [intOf]; omega⟩
      first | exact R | ((repeat apply Exists.intro); refine ⟨R, ?_⟩; and_intros <;> rfl)
    · have hlt' : ¬ ((k : Int) < (n : Int)) := by omega
      obtain rfl : k = n := by omega
      have HSL := hid (Nat.le_trans (numsS_st_len k (t, false)) HT.out)
      have hres := Hres.out
      unfold rowR at hres
      generalize numsS k (t, false) = s at E O HSL hres
      obtain ⟨l, st⟩ := s
      dsimp only at HSL E O hres
      obtain ⟨ap, np, cp, rfl, _, _, _⟩ := RO.cs O.out
      have O0 := hid (RO.base' O.out (show w.heap.size ≤ g + 1 from by have := GW.out; omega))
      have O1 := hid O.out
      clear Hres O
      rcases tx with _ | _
      · simp only [Bool.false_eq_true, if_false] at hres
        have HR := hid hres
        clear hres
        go_wp2_with fail
        refine (rend_calls wr g A st.1 st.2 E.out).mono ?_
        rintro e w' ⟨rfl, rfl⟩
        rw [end_eq]
        by_cases hz : st = ([], false)
        · have hr := HR.out
          rw [if_pos hz] at hr
          rw [decide_eq_true hz]
          clear hz HR
          go_wp2_with fail
          go_ret3
          rw [← hr]
          exact ⟨_, _, _, rfl, O0.out, BS.nil _, NewAt.none _ _, B.out⟩
        · have hr := HR.out
          rw [if_neg hz] at hr
          rw [decide_eq_false hz]
          clear hz HR
          go_wp2_with fail
          go_ret3
          rw [← hr]
          exact row_bad _ _ _ B.out
      · simp only [if_true] at hres
        have HR := hid hres
        clear hres
        go_wp2_with fail
        refine (rtext2_calls wr g A st E.out (by have := HSL.out; omega)).mono ?_
        rintro e w5 ⟨a5, c5, rfl, hb5, hE, hch, hna⟩
        have NA := hid (show NewAt w.heap.size w5 a5 from hna.mono B.out.size (Nat.le_refl _))
        clear hna
        have B5 := hid (B.out.trans (hch.below (B := w.heap.size) B.out.size (by have := GW.out; simp; omega)))
        have O5 := hid (RO.chg O0.out hch (by intro q hq; have := (RO.ownBlock O1.out q hq).1; simp; omega))
        have S5 := hid hb5
        have E5 := hid hE
        clear hb5 hE hch
        generalize textS st = z at HR S5 E5 ⊢
        obtain ⟨tt, sz⟩ := z
        dsimp only at HR S5 E5 ⊢
        go_wp2_with fail
        refine (rend_calls w5 g A sz.1 sz.2 E5.out).mono ?_
        rintro e w' ⟨rfl, rfl⟩
        rw [end_eq]
        by_cases hz : sz = ([], false)
        · have hr := HR.out
          rw [if_pos hz] at hr
          rw [decide_eq_true hz]
          clear hz HR
          go_wp2_with fail
          go_ret3
          rw [← hr]
          exact ⟨_, _, _, rfl, O5.out, S5.out, NA.out, B5.out⟩
        · have hr := HR.out
          rw [if_neg hz] at hr
          rw [decide_eq_false hz]
          clear hz HR
          go_wp2_with fail
          go_ret3
          rw [← hr]
          exact row_bad _ _ _ B5.out
end Go.Proofs.YtmmcmldcbdaooaaDoor
