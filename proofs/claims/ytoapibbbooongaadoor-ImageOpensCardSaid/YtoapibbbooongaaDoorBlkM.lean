/- The walks of layer 6: places that are taken or free. -/
import Derived.Test.YtoapibbbooongaaDoorBlkMath
namespace Go.Proofs.YtoapibbbooongaaDoor
open Go.RowKit Go.Quad _root_.Quad

/-- a map of places: at g its fields, at d its row -/
structure IsMp (w : World) (g d : Nat) (m : List Bool) : Prop where
  own : Blk w g [.slice (some ⟨d, 0, none⟩) m.length m.length, .int .i64 (leftM m : Int)] 155
  row : Blk w d (m.map Value.bool) 4
  ne : g ≠ d
  few : m.length ≤ 100000

def MpTo (w : World) (g d : Nat) (r : List Bool × Bool) (e : Ending) (w' : World) : Prop := e = .returned (.bool r.2) ∧ IsMp w' g d r.1 ∧ Chg [g, d] w w'

set_option maxHeartbeats 1000000 in
theorem set_calls (w : World) (g d : Nat) (m : List Bool) (i : Int) (b : Bool) (h : IsMp w g d m) :
    Calls Tryd.prog 87 #[.pointer (some ⟨g, 0, none⟩), .int .i64 i, .bool b] w (MpTo w g d (markM m i b)) := by
  have H := hid h
  have c0 := h.own.get 0 rfl
  have c1 := h.own.get 1 rfl
  have f1 := h.own.free 1
  have hfew := h.few
  have hne := h.ne
  have hle := left_le m
  have hfw : (m.length : Int) ≤ 100000 := by omega
  have hlf : (leftM m : Int) ≤ 100000 := by omega
  clear h
  unfold markM
  by_cases h1 : i < 0
  · rw [if_neg (by omega)]
    go_enter Tryd.func87, Tryd.ntmps87
    go_wp2_with fail
    go_ret
    exact ⟨rfl, H.out, Chg.refl _ _⟩
  by_cases h2 : (m.length : Int) ≤ i
  · rw [if_neg (by omega)]
    have h1' : decide (i < 0) = false := by simpa using h1
    go_enter Tryd.func87, Tryd.ntmps87
    go_wp2_with fail
    go_ret
    exact ⟨rfl, H.out, Chg.refl _ _⟩
  obtain ⟨k, rfl⟩ : ∃ k : Nat, i = k := ⟨i.toNat, by omega⟩
  rw [Int.toNat_natCast]
  have hk : k < m.length := by omega
  have hk' : (k : Int) < (m.length : Int) := by omega
  obtain ⟨v, hv⟩ : ∃ v, m[k] = v := ⟨_, rfl⟩
  have hgd : m.getD k b = v := by rw [List.getD_eq_getElem?_getD, List.getElem?_eq_getElem hk]; exact hv
  have d0 := H.out.row.get k (v := .bool v) (by rw [List.getElem?_map, List.getElem?_eq_getElem hk, hv]; rfl)
  have fd := H.out.row.free k
  rw [hgd]
  have hmk : m[k]? = some v := by rw [List.getElem?_eq_getElem hk, hv]
  have lm := @left_mark m k
  have lf := @left_free m k
  rw [hmk] at lm lf
  clear hv hgd hmk h1 h2
  cases v <;> cases b
  case' false.false =>
    rw [if_neg (by simp)]
  case' true.true =>
    rw [if_neg (by simp)]
  case' false.true =>
    rw [if_pos ⟨by omega, hk', rfl⟩]
  case' true.false =>
    rw [if_pos ⟨by omega, hk', rfl⟩]
  case' false.false =>
    go_enter Tryd.func87, Tryd.ntmps87
    go_wp2_with fail
    go_ret
    exact ⟨rfl, H.out, Chg.refl _ _⟩
  case' true.true =>
    go_enter Tryd.func87, Tryd.ntmps87
    go_wp2_with fail
    go_ret
    exact ⟨rfl, H.out, Chg.refl _ _⟩
  case' false.true =>
    go_enter Tryd.func87, Tryd.ntmps87
    go_wp2_with fail
    go_ret
    have e : (leftM m : Int) - 1 = (leftM (m.set k true) : Int) := by have := lm trivial; omega
    have k1 := (H.out.own.keep (chg_setCell w d k (.bool true)) (by simpa using hne)).set 1 (.int .i64 ((leftM m : Int) - 1))
    have k2 := (H.out.row.set k (.bool true)).keep (chg_setCell (w.setCell ⟨d, k, none⟩ (.bool true)) g 1 (.int .i64 ((leftM m : Int) - 1))) (by simpa using hne.symm)
    rw [← List.map_set] at k2
    refine ⟨rfl, ⟨?_, k2, hne, by rw [List.length_set]; exact H.out.few⟩, ((chg_setCell w d k (.bool true)).mono (by simp)).trans ((chg_setCell _ g 1 (.int .i64 ((leftM m : Int) - 1))).mono (by simp))⟩
    rw [List.length_set, ← e]
    exact k1
  case' true.false =>
    go_enter Tryd.func87, Tryd.ntmps87
    go_wp2_with fail
    go_ret
    have e : (leftM m : Int) + 1 = (leftM (m.set k false) : Int) := by have := lf trivial; omega
    have k1 := (H.out.own.keep (chg_setCell w d k (.bool false)) (by simpa using hne)).set 1 (.int .i64 ((leftM m : Int) + 1))
    have k2 := (H.out.row.set k (.bool false)).keep (chg_setCell (w.setCell ⟨d, k, none⟩ (.bool false)) g 1 (.int .i64 ((leftM m : Int) + 1))) (by simpa using hne.symm)
    rw [← List.map_set] at k2
    refine ⟨rfl, ⟨?_, k2, hne, by rw [List.length_set]; exact H.out.few⟩, ((chg_setCell w d k (.bool false)).mono (by simp)).trans ((chg_setCell _ g 1 (.int .i64 ((leftM m : Int) + 1))).mono (by simp))⟩
    rw [List.length_set, ← e]
    exact k1

theorem mark_calls (w : World) (g d : Nat) (m : List Bool) (i : Int) (h : IsMp w g d m) :
    Calls Tryd.prog 49 #[.pointer (some ⟨g, 0, none⟩), .int .i64 i] w (MpTo w g d (markM m i true)) := by
  have hC := set_calls w g d m i true h
  go_enter Tryd.func49, Tryd.ntmps49
  go_wp2_with fail
  refine hC.mono ?_
  rintro e w' ⟨rfl, h1, h2⟩
  dsimp only
  go_wp2_with fail
  go_ret
  exact ⟨rfl, h1, h2⟩

theorem free_calls (w : World) (g d : Nat) (m : List Bool) (i : Int) (h : IsMp w g d m) :
    Calls Tryd.prog 54 #[.pointer (some ⟨g, 0, none⟩), .int .i64 i] w (MpTo w g d (markM m i false)) := by
  have hC := set_calls w g d m i false h
  go_enter Tryd.func54, Tryd.ntmps54
  go_wp2_with fail
  refine hC.mono ?_
  rintro e w' ⟨rfl, h1, h2⟩
  dsimp only
  go_wp2_with fail
  go_ret
  exact ⟨rfl, h1, h2⟩

theorem left_calls (w : World) (g d : Nat) (m : List Bool) (h : IsMp w g d m) :
    Calls Tryd.prog 66 #[.pointer (some ⟨g, 0, none⟩)] w fun e w' => e = .returned (.int .i64 (leftM m : Int)) ∧ w = w' := by
  have c1 := h.own.get 1 rfl
  go_enter Tryd.func66, Tryd.ntmps66
  go_wp2_with fail
  go_ret
  exact ⟨rfl, rfl⟩
end Go.Proofs.YtoapibbbooongaaDoor
