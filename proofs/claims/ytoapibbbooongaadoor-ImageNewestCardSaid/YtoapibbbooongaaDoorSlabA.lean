/- The walks of layer 5: what is told of a slab, a step, a new slab. -/
import Derived.Test.YtoapibbbooongaaDoorLib
import Derived.Test.YtoapibbbooongaaDoorSlabMath
import Derived.Deep.MidRow
import Derived.Deep.WholeRow
namespace Go.Proofs.YtoapibbbooongaaDoor
open Go.RowKit Go.Quad _root_.Quad.Slab

def bV (p : List UInt8) : List Value := p.map u8v
def wrV (x : Nat × List UInt8) : List Value := .int .i64 (x.1 : Int) :: x.2.map u8v

/-- a slab in memory: at g its fields, at d what is done, wv what is under way -/
structure IsSlab (w : World) (B g d : Nat) (wv : Value) (s : Sl) : Prop where
  own : Blk w g [.slice (some ⟨d, 0, none⟩) s.done.length s.done.length, wv, .bool s.off, .int .i64 (s.armed : Int), .int .i64 (s.steps : Int)] 89
  don : Blk w d (s.done.flatMap bV) 114
  way : w.ownsRow B 116 129 wv s.way.length (s.way.flatMap wrV)
  ok : Ok s
  ge : B ≤ g ∧ B ≤ d
  ne : g ≠ d ∧ wv.ownBlock ≠ some g ∧ wv.ownBlock ≠ some d

/-- the blocks of a slab -/
def slS (g d : Nat) (wv : Value) : List Nat := g :: d :: wv.ownBlock.toList

theorem ownsRow_chg {S : List Nat} {w w' : World} {base : Nat} {e : TypeId} {size : Nat} {v : Value} {n : Nat} {xs : List Value} (h : w.ownsRow base e size v n xs) (hc : Chg S w w') (hs : ∀ k, v.ownBlock = some k → k ∉ S) : w'.ownsRow base e size v n xs := by
  refine ⟨h.1, ?_⟩
  rcases h.2 with h0 | ⟨g, cap, cur, rfl, hb, hg, h1⟩
  · exact .inl h0
  · have hlt : g < w.heap.size := (Array.getElem?_eq_some_iff.1 hg).1
    exact .inr ⟨g, cap, cur, rfl, hb, by rw [hc.block g hlt (hs g rfl)]; exact hg, h1⟩

theorem IsSlab.chg {S : List Nat} {w w' : World} {B g d : Nat} {wv : Value} {s : Sl} (h : IsSlab w B g d wv s) (hc : Chg S w w') (hS : ∀ k ∈ S, k ∉ slS g d wv) : IsSlab w' B g d wv s :=
  ⟨h.own.keep hc (fun hm => hS g hm (by simp [slS])), h.don.keep hc (fun hm => hS d hm (by simp [slS])), ownsRow_chg h.way hc (fun k hk hm => hS k hm (by simp [slS, hk])), h.ok, h.ge, h.ne⟩
theorem IsSlab.below {w w' : World} {B g d : Nat} {wv : Value} {s : Sl} (h : IsSlab w B g d wv s) (hb : Below w.heap.size w w') : IsSlab w' B g d wv s := h.chg (Chg.of_below [] hb) (by simp)

theorem has_calls (w : World) (B g d : Nat) (wv : Value) (s : Sl) (i : Int) (n : Nat) (h : IsSlab w B g d wv s) (hi : -9223372036854775808 ≤ i ∧ i ≤ 9223372036854775807) (hn : (n : Int) ≤ 9223372036854775807) :
    Calls Tryd.prog 56 #[.pointer (some ⟨g, 0, none⟩), .int .i64 i, .int .i64 (n : Int)] w fun e w' => e = .returned (.int .i64 (hasL s i n : Int)) ∧ w = w' := by
  have c0 := h.own.get 0 rfl
  have c2 := h.own.get 2 rfl
  have hsm := h.ok.small
  clear h
  obtain ⟨done, way, off, armed, steps⟩ := s
  dsimp only at c0 c2 hsm
  unfold hasL
  dsimp only
  by_cases h1 : i < 0
  · rw [if_pos (.inl h1)]
    go_enter Tryd.func56, Tryd.ntmps56
    go_wp2_with fail
    go_ret
    exact ⟨rfl, rfl⟩
  · have h1' : decide (i < 0) = false := by simpa using h1
    by_cases h2 : (done.length : Int) ≤ i
    · rw [if_pos (.inr h2)]
      go_enter Tryd.func56, Tryd.ntmps56
      go_wp2_with fail
      go_ret
      exact ⟨rfl, rfl⟩
    · rw [if_neg (by omega)]
      by_cases h3 : 128 < n
      · rw [if_pos h3]
        have h3' : (128 : Int) < (n : Int) := by omega
        clear h3
        go_enter Tryd.func56, Tryd.ntmps56
        go_wp2_with fail
        go_ret
        exact ⟨rfl, rfl⟩
      · rw [if_neg h3]
        have h3' : ¬ ((128 : Int) < (n : Int)) := by omega
        clear h3
        cases off
        all_goals
          go_enter Tryd.func56, Tryd.ntmps56
          go_wp2_with fail
          go_ret
          exact ⟨rfl, rfl⟩

theorem nilhas_calls (w : World) (i n : Int) : Calls Tryd.prog 56 #[.pointer none, .int .i64 i, .int .i64 n] w fun e w' => e = .returned (.int .i64 6) ∧ w = w' := by
  go_enter Tryd.func56, Tryd.ntmps56
  go_wp2_with fail
  go_ret
  exact ⟨rfl, rfl⟩

theorem ok_step {s : Sl} (h : Ok s) (hs : s.steps < 1000000) : Ok (stepL s) :=
  ⟨h.sec, h.wsec, h.small, h.wsmall, by unfold stepL; dsimp only; omega, by have := h.asmall; unfold stepL; dsimp only; omega⟩

/-- fields of a slab are stored -/
theorem IsSlab.put {w w' : World} {B g d : Nat} {wv : Value} {s s' : Sl} (h : IsSlab w B g d wv s) (hc : Chg [g] w w') (hB : Blk w' g [.slice (some ⟨d, 0, none⟩) s.done.length s.done.length, wv, .bool s'.off, .int .i64 (s'.armed : Int), .int .i64 (s'.steps : Int)] 89)
    (hd : s'.done = s.done) (hw : s'.way = s.way) (hok : Ok s') : IsSlab w' B g d wv s' := by
  have hne := h.ne
  refine ⟨by rw [hd]; exact hB, ?_, ?_, hok, h.ge, h.ne⟩
  · rw [hd]; exact h.don.keep hc (by simp; omega)
  · rw [hw]; exact ownsRow_chg h.way hc (fun k hk hm => by simp at hm; subst hm; exact hne.2.1 hk)

set_option maxHeartbeats 1000000 in
theorem step_calls (w : World) (B g d : Nat) (wv : Value) (s : Sl) (h : IsSlab w B g d wv s) (hs : s.steps < 1000000) :
    Calls Tryd.prog 57 #[.pointer (some ⟨g, 0, none⟩)] w fun e w' => e = .returned (.bool (!(stepL s).off)) ∧ IsSlab w' B g d wv (stepL s) ∧ Chg [g] w w' := by
  have c2 := h.own.get 2 rfl
  have c3 := h.own.get 3 rfl
  have c4 := h.own.get 4 rfl
  have f2 := h.own.free 2
  have f3 := h.own.free 3
  have f4 := h.own.free 4
  have hss : (s.steps : Int) ≤ 1000000 := by omega
  have has' : (s.armed : Int) ≤ 9223372036854775807 := by have := h.ok.asmall; omega
  have H := hid h
  have Hs := hid hs
  clear h hs
  by_cases h0 : s.armed = 0
  · have e : stepL s = { s with steps := s.steps + 1 } := by unfold stepL; rw [if_neg (by omega), h0]
    have E := hid e
    have ho : (stepL s).off = s.off := by rw [e]
    rw [ho]
    have h0' : ¬ (0 < (s.armed : Int)) := by omega
    have hB := (H.out.own.set 4 (.int .i64 ((s.steps : Int) + 1)))
    have hput := hid (H.out.put (s' := stepL s) (chg_setCell w g 4 (.int .i64 ((s.steps : Int) + 1))) (by rw [e]; simpa using hB) (by rw [e]) (by rw [e]) (ok_step H.out.ok Hs.out))
    clear e ho hB h0
    go_enter Tryd.func57, Tryd.ntmps57
    go_wp2_with fail
    go_ret
    exact ⟨rfl, hput.out, chg_setCell w g 4 _⟩
  · have e : stepL s = { s with steps := s.steps + 1, armed := s.armed - 1, off := decide (s.armed = 1) } := by unfold stepL; rw [if_pos (by omega)]
    have ho : (stepL s).off = decide (s.armed = 1) := by rw [e]
    rw [ho]
    have h0' : 0 < (s.armed : Int) := by omega
    have ha : ((s.armed : Int) - 1 == 0) = decide (s.armed = 1) := by
      rw [Bool.eq_iff_iff, beq_iff_eq, decide_eq_true_iff]; omega
    have hB := ((H.out.own.set 4 (.int .i64 ((s.steps : Int) + 1))).set 3 (.int .i64 ((s.armed : Int) - 1))).set 2 (.bool (decide (s.armed = 1)))
    have hc : Chg [g] w (((w.setCell ⟨g, 4, none⟩ (.int .i64 ((s.steps : Int) + 1))).setCell ⟨g, 3, none⟩ (.int .i64 ((s.armed : Int) - 1))).setCell ⟨g, 2, none⟩ (.bool (decide (s.armed = 1)))) :=
      ((chg_setCell w g 4 _).trans (chg_setCell _ g 3 _)).trans (chg_setCell _ g 2 _)
    have hput := hid (H.out.put (s' := stepL s) hc (by rw [e]; simp only [List.set_cons_succ, List.set_cons_zero] at hB; rw [show ((s.armed - 1 : Nat) : Int) = (s.armed : Int) - 1 from by omega]; simpa using hB) (by rw [e]) (by rw [e]) (ok_step H.out.ok Hs.out))
    have Hc := hid hc
    clear e ho hB h0 hc
    go_enter Tryd.func57, Tryd.ntmps57
    go_wp2_with fail
    go_ret
    exact ⟨rfl, hput.out, Hc.out⟩
end Go.Proofs.YtoapibbbooongaaDoor
