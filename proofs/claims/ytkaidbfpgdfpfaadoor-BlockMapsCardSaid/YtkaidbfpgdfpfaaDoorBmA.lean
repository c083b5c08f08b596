/- BlockMaps: a map of places and a list beside it. -/
import Derived.Test.YtkaidbfpgdfpfaaDoorBlkF
import Derived.Test.YtkaidbfpgdfpfaaDoorKnotA
namespace Go.Proofs.YtkaidbfpgdfpfaaDoor
open Go.RowKit Go.Quad _root_.Quad

def inI (x : Int) : List Value := [.int .i64 x]
theorem inI_length (x : Int) : (inI x).length = 1 := rfl
theorem ints_open {w : World} {v : Value} (h : RV Tryd.prog w 39 v) :
    ∃ (a : Option Addr) (cap : Nat) (l : List Int), v = .slice a l.length cap ∧ (∀ r ∈ l, -9223372036854775808 ≤ r ∧ r ≤ 9223372036854775807) ∧ CS w a cap 1 (l.flatMap inI) ∧ l.length ≤ cap := by
  obtain ⟨a, cap, E, rfl, hE, hl, hc⟩ := h.slice Tryd.underlying39 1 (by kernel_rfl) (by decide)
  have key : ∀ E : List (List Value), (∀ x ∈ E, x.length = 1 ∧ RC Tryd.prog w 3 x) → ∃ l : List Int, l.length = E.length ∧ E.flatten = l.flatMap inI ∧ ∀ r ∈ l, -9223372036854775808 ≤ r ∧ r ≤ 9223372036854775807 := by
    intro E
    induction E with
    | nil => intro _; exact ⟨[], rfl, rfl, by simp⟩
    | cons x E ih =>
      intro h
      obtain ⟨l, h1, h2, h3⟩ := ih fun y hy => h y (List.mem_cons_of_mem _ hy)
      obtain ⟨o, ho, hok⟩ := (h x (List.mem_cons_self ..)).2.int Tryd.underlying3
      exact ⟨o :: l, by simp [h1], by rw [List.flatten_cons, h2, ho, List.flatMap_cons]; rfl, fun q hq => by
        rcases List.mem_cons.1 hq with rfl | hq
        · exact bounds_i64 hok
        · exact h3 q hq⟩
  obtain ⟨l, h1, h2, h3⟩ := key E hE
  rw [h2] at hc
  rw [← h1] at hl ⊢
  exact ⟨a, cap, l, rfl, h3, hc, hl⟩

theorem left_take {M : List Bool} {j : Nat} (hj : j < M.length) : leftM (M.take (j + 1)) = leftM (M.take j) + (if M[j] = true then 0 else 1) := by
  unfold leftM
  rw [List.take_add_one, List.getElem?_eq_getElem hj, List.countP_append]
  congr 1
  cases M[j] <;> rfl
theorem left_take_le (M : List Bool) (j : Nat) : leftM (M.take j) ≤ M.length := Nat.le_trans (left_le _) (by rw [List.length_take]; omega)
theorem mk_last {m : List Bool} {i : Nat} (hi : i ≤ m.length) : mkM m (fromP (freeP m i) (freeP m i).length) = mkM m i := by
  have hle : fromP (freeP m i) (freeP m i).length ≤ i := by
    unfold fromP
    split
    · omega
    · rename_i h
      rw [List.getD_eq_getElem?_getD, List.getElem?_eq_getElem (by omega)]
      exact (freeP_lt (List.getElem_mem (by omega))).1
  obtain ⟨d, hd⟩ : ∃ d, i = fromP (freeP m i) (freeP m i).length + d := ⟨_, (Nat.add_sub_cancel' hle).symm⟩
  have h := mkM_skips (m := m) (a := fromP (freeP m i) (freeP m i).length) d fun x h1 h2 => ?_
  · rw [← hd] at h; exact h.symm
  · rw [← hd] at h2
    by_cases hm : m.getD x true = false
    · have hx : x ∈ freeP m i := by
        unfold freeP
        rw [List.mem_filter, List.mem_range]
        exact ⟨h2, by rw [hm]; rfl⟩
      exfalso
      obtain ⟨y, hy, rfl⟩ := List.mem_iff_getElem.1 hx
      unfold fromP at h1
      rw [if_neg (by omega), List.getD_eq_getElem?_getD, List.getElem?_eq_getElem (by omega)] at h1
      have h1 : (freeP m i)[(freeP m i).length - 1] + 1 ≤ (freeP m i)[y] := h1
      rcases Nat.lt_or_ge y ((freeP m i).length - 1) with hl | hl
      · have := List.pairwise_iff_getElem.1 (freeP_rise (m := m) i) y ((freeP m i).length - 1) (by omega) (by omega) hl
        omega
      · have : y = (freeP m i).length - 1 := by omega
        subst this
        omega
    · have hb : m.getD x true = true := by simpa using hm
      rw [List.getD_eq_getElem?_getD, List.getElem?_eq_getElem (by omega)] at hb
      rw [List.getElem?_eq_getElem (by omega)]
      exact congrArg some hb

/-- a map at g, d; a list of its own at t -/
structure BmSt (w : World) (g d t K : Nat) (M T : List Bool) (wr : World) : Prop where
  mp : IsMp wr g d M
  row : Blk wr t (T.map Value.bool) 4
  len : M.length = K ∧ T.length = K
  ne : t ≠ g ∧ t ≠ d
  ge : w.heap.size ≤ g ∧ w.heap.size ≤ d ∧ w.heap.size ≤ t
  bel : Below w.heap.size w wr

theorem BmSt.below {w : World} {g d t K : Nat} {M T : List Bool} {wr w' : World} (h : BmSt w g d t K M T wr) (hb : Below wr.heap.size wr w') : BmSt w g d t K M T w' :=
  ⟨h.mp.below hb, h.row.below hb, h.len, h.ne, h.ge, h.bel.trans (hb.mono h.bel.size)⟩
theorem BmSt.call {w : World} {g d t K : Nat} {M T M' : List Bool} {wr w' : World} (h : BmSt w g d t K M T wr) (hm : IsMp w' g d M') (hl : M'.length = K) (hc : Chg [g, d] wr w') : BmSt w g d t K M' T w' :=
  ⟨hm, h.row.keep hc (by simp [h.ne]), ⟨hl, h.len.2⟩, h.ne, h.ge, h.bel.trans (hc.below h.bel.size (by simp [h.ge]))⟩
theorem BmSt.set {w : World} {g d t K : Nat} {M T : List Bool} {wr : World} (h : BmSt w g d t K M T wr) (i : Nat) (b : Bool) : BmSt w g d t K M (T.set i b) (wr.setCell ⟨t, i, none⟩ (.bool b)) :=
  ⟨h.mp.chg (chg_setCell wr t i _) (by simp [h.ne.1.symm]) (by simp [h.ne.2.symm]), by rw [List.map_set]; exact h.row.set i _, ⟨h.len.1, by rw [List.length_set]; exact h.len.2⟩, h.ne, h.ge, h.bel.trans ((chg_setCell wr t i _).below h.bel.size (by simp [h.ge]))⟩
theorem BmSt.get {w : World} {g d t K : Nat} {M T : List Bool} {wr : World} (h : BmSt w g d t K M T wr) {j : Nat} {b : Bool} (hb : T[j]? = some b) : wr.cell? ⟨t, j, none⟩ = some (.bool b) := h.row.get j (by rw [List.getElem?_map, hb]; rfl)

theorem markM_length (M : List Bool) (i : Int) (b : Bool) : (markM M i b).1.length = M.length := by
  unfold markM; split <;> simp
theorem markM_out {M : List Bool} {i : Int} (b : Bool) (h : i < 0 ∨ (M.length : Int) ≤ i) : markM M i b = (M, false) := by
  unfold markM; rw [if_neg (by omega)]
theorem markM_in {M : List Bool} {i : Nat} {c : Bool} (b : Bool) (hi : i < M.length) (hc : M[i]? = some c) : markM M (i : Int) b = (M.set i b, c == !b) := by
  unfold markM
  have e : M.getD i (!b) = c := by rw [List.getD_eq_getElem?_getD, hc]; rfl
  by_cases h : c = !b
  · rw [if_pos ⟨by omega, by omega, by rw [Int.toNat_natCast, List.getD_eq_getElem?_getD, hc]; exact h⟩, Int.toNat_natCast, h]
    simp
  · rw [if_neg (fun hh => h (by have := hh.2.2; rw [Int.toNat_natCast, List.getD_eq_getElem?_getD, hc] at this; exact this))]
    have hcb : c = b := by cases c <;> cases b <;> simp_all
    subst hcb
    have : M.set i c = M := by
      obtain ⟨h1, h2⟩ := List.getElem?_eq_some_iff.1 hc
      rw [← h2]; exact List.set_getElem_self h1
    rw [this]
    cases c <;> rfl

/-- a list just made -/
def BmMade (w0 : World) (K : Nat) (v : Value) (w : World) : Prop := ∃ t, v = .slice (some ⟨t, 0, none⟩) K K ∧ w0.heap.size ≤ t ∧ Blk w t ((List.replicate K false).map Value.bool) 4 ∧ Below w0.heap.size w0 w
/-- the rounds -/
def BmRel (w : World) (g d t K n : Nat) (iv : Value) (wr : World) : Prop := ∃ (k : Nat) (M : List Bool), iv = .int .i64 (k : Int) ∧ k ≤ n ∧ k ≤ 80 ∧ BmSt w g d t K M M wr
/-- counted so far -/
def BmCnt (M : List Bool) (wo : World) (v iv : Value) (wr : World) : Prop := ∃ j : Nat, v = .int .i64 (leftM (M.take j) : Int) ∧ iv = .int .i64 (j : Int) ∧ j ≤ M.length ∧ wo = wr
def BmMid (w : World) (g d t K : Nat) (wr : World) : Prop := ∃ M, BmSt w g d t K M M wr
/-- the places that were told are marked beside -/
def BmOut (w : World) (g d t K : Nat) (M M1 : List Bool) (L : List Nat) (w5 : World) (jv qv : Value) (wr : World) : Prop :=
  ∃ (j q : Nat), jv = .int .i64 (j : Int) ∧ qv = .int .i64 (q : Int) ∧ q ≤ L.length ∧ j ≤ M.length ∧ (∀ x, L[q]? = some x → j ≤ x) ∧ BmSt w g d t K M1 (mkM M (fromP L q)) wr ∧ Chg [t] w5 wr
def BmIn (x : Nat) (wo : World) (jv : Value) (wr : World) : Prop := ∃ j : Nat, jv = .int .i64 (j : Int) ∧ j ≤ x ∧ wo = wr
end Go.Proofs.YtkaidbfpgdfpfaaDoor
