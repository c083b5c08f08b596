/- The walk of layer 18's example, and of the laws of one node. -/
import Derived.Test.YtolgfemjpkgloaaLeaseC
import Derived.Deep.QuietTactic
import Derived.BigQuiet
namespace Go.Proofs.Ytolgfemjpkgloaa
open Go.RowKit Go.Quad _root_.Quad.Lease

/-- a tick's answer, to be read -/
def TickU (w : World) (g s : Nat) (L : List Nd) (gs : List (Nat × Nat)) (ws : List Nat) (e : Ending) (w' : World) : Prop :=
  ∃ ga gc aa ac, e = .returned (.tuple #[.slice ga gs.length gc, .slice aa ws.length ac]) ∧ CS w' ga gc 2 (gs.flatMap grV) ∧ CS w' aa ac 1 (ws.flatMap inV) ∧ IsBook w' g s L ∧ Chg [s] w w' ∧ (∀ x, ga = some x → s ≠ x.block) ∧ (∀ x, aa = some x → s ≠ x.block)

theorem tick_u (w : World) (g s : Nat) (l : List Nd) (now : Nat) (h : IsBook w g s l) (hn : now ≤ 4294967295) {L : List Nd} {gs : List (Nat × Nat)} {ws : List Nat} (hr : tickN l 0 now = (L, gs, ws)) :
    Calls Try.prog 10 #[.pointer (some ⟨g, 0, none⟩), .int .u32 (now : Int)] w (TickU w g s L gs ws) := by
  refine (tick_calls w g s l now h hn).mono ?_
  rw [hr]
  rintro e w' ⟨gv, av, rfl, hT⟩
  obtain ⟨ga, gn, gc, rfl, rfl, _, hg⟩ := hT.gr.cs
  obtain ⟨aa, an, ac, rfl, rfl, _, ha⟩ := hT.aw.cs
  refine ⟨ga, gc, aa, ac, rfl, hg, ha, hT.book, hT.chg, fun x hx hs => ?_, fun x hx hs => ?_⟩
  · subst hx
    have := (hT.gr.ownBlock x.block rfl).1
    have := hT.old
    omega
  · subst hx
    have := (hT.aw.ownBlock x.block rfl).1
    have := hT.old
    omega

theorem gr_at {w : World} {a : Option Addr} {c : Nat} {gs : List (Nat × Nat)} (h : CS w a c 2 (gs.flatMap grV)) {k : Nat} (hk : k < gs.length) :
    ∃ b off, a = some ⟨b, off, none⟩ ∧ w.cell? ⟨b, off + k * 2, none⟩ = some (.int .i64 (gs[k].1 : Int)) ∧ w.cell? ⟨b, off + k * 2 + 1, none⟩ = some (.int .u32 (gs[k].2 : Int)) := by
  obtain ⟨b, off, e, hc⟩ := cs_row grV_length h hk (by decide)
  exact ⟨b, off, e, hc 0 _ rfl, hc 1 _ rfl⟩

/-- what is heard, to be used -/
theorem hear_u (w : World) (g s : Nat) (l : List Nd) (i : Int) (now life : Nat) (h : IsBook w g s l) (hi : -9223372036854775808 ≤ i ∧ i ≤ 9223372036854775807) (hn : now ≤ 4294967295) (hl : life ≤ 4294967295) {L : List Nd} {fr lo : Bool} (hr : hearN l i now life = (L, fr, lo)) :
    Calls Try.prog 9 #[.pointer (some ⟨g, 0, none⟩), .int .i64 i, .int .u32 (now : Int), .int .u32 (life : Int)] w fun e w' => e = .returned (.tuple #[.bool fr, .bool lo]) ∧ IsBook w' g s L ∧ Chg [s] w w' := by
  have := hear_calls w g s l i now life h hi hn hl
  rw [hr] at this
  exact this

set_option maxRecDepth 20000 in
set_option maxHeartbeats 4000000 in
theorem awake_calls (w : World) : Calls Try.prog 7 #[] w fun e w' => e = .returned (.bool true) ∧ Below w.heap.size w w' := by
  have e1 : hearN (List.replicate 2 zero) 0 5 2 = ([⟨1, 2, 5, 13⟩, zero], true, false) := by decide
  have e2 : tickN [⟨1, 2, 5, 13⟩, zero] 0 6 = ([⟨1, 2, 5, 14⟩, zero], [(0, 14)], []) := by decide
  have e3 : tickN [⟨1, 2, 5, 14⟩, zero] 0 9 = ([⟨2, 2, 5, 14⟩, zero], [], []) := by decide
  have e4 : tickN [⟨2, 2, 5, 14⟩, zero] 0 14 = ([⟨2, 2, 5, 14⟩, zero], [], []) := by decide
  have e5 : tickN [⟨2, 2, 5, 14⟩, zero] 0 15 = ([⟨0, 2, 5, 14⟩, zero], [], [0]) := by decide
  have e6 : hearN [⟨0, 2, 5, 14⟩, zero] 0 16 2 = ([⟨0, 2, 5, 14⟩, zero], false, false) := by decide
  have E := hid (And.intro e1 (And.intro e2 (And.intro e3 (And.intro e4 (And.intro e5 e6)))))
  clear e1 e2 e3 e4 e5 e6
  go_enter Try.func7, Try.ntmps7
  go_wp2_with fail
  refine (newbook_calls w 2 (by omega)).mono ?_
  rintro e w1 ⟨g, s, rfl, hB, hs, hsg, hb⟩
  have B1 := hid hB
  have H1 := hid hb
  have Sg : Kept (∀ k ∈ [s], w.heap.size ≤ k) := ⟨by intro k hk; simp at hk; omega⟩
  clear hB hs hsg hb
  go_wp2_with fail
  refine (hear_u w1 g s _ 0 5 2 B1.out (by omega) (by omega) (by omega) E.out.1).mono ?_
  rintro e w2 ⟨rfl, hB, hc⟩
  have B2 := hid hB
  have H2 := hid (H1.out.trans (hc.below H1.out.size Sg.out))
  clear hB hc
  go_wp2_with fail
  refine (tick_u w2 g s _ 6 B2.out (by omega) E.out.2.1).mono ?_
  rintro e w3 ⟨ga, gc, aa, ac, rfl, hg, ha, hB, hc, ho, _⟩
  have B3 := hid hB
  have G3 := hid hg
  have O3 := hid (fun x hx (hm : x.block ∈ [s]) => ho x hx (by simp at hm; exact hm.symm))
  have H3 := hid (H2.out.trans (hc.below H2.out.size Sg.out))
  clear hg ha hB hc ho
  go_wp2_with fail
  refine (tick_u w3 g s _ 9 B3.out (by omega) E.out.2.2.1).mono ?_
  rintro e w4 ⟨ga4, gc4, aa4, ac4, rfl, _, _, hB, hc, _⟩
  have B4 := hid hB
  have G4 := hid (G3.out.chg hc O3.out)
  have H4 := hid (H3.out.trans (hc.below H3.out.size Sg.out))
  clear hB hc
  go_wp2_with fail
  refine (tick_u w4 g s _ 14 B4.out (by omega) E.out.2.2.2.1).mono ?_
  rintro e w5 ⟨ga5, gc5, aa5, ac5, rfl, _, _, hB, hc, _⟩
  have B5 := hid hB
  have G5 := hid (G4.out.chg hc O3.out)
  have H5 := hid (H4.out.trans (hc.below H4.out.size Sg.out))
  clear hB hc
  go_wp2_with fail
  refine (tick_u w5 g s _ 15 B5.out (by omega) E.out.2.2.2.2.1).mono ?_
  rintro e w6 ⟨ga6, gc6, aa6, ac6, rfl, _, _, hB, hc, _⟩
  have B6 := hid hB
  have G6 := hid (G5.out.chg hc O3.out)
  have H6 := hid (H5.out.trans (hc.below H5.out.size Sg.out))
  clear hB hc
  go_wp2_with fail
  refine (hear_u w6 g s _ 0 16 2 B6.out (by omega) (by omega) (by omega) E.out.2.2.2.2.2).mono ?_
  rintro e w7 ⟨rfl, hB, hc⟩
  have B7 := hid hB
  have G7 := hid (G6.out.chg hc O3.out)
  have H7 := hid (H6.out.trans (hc.below H6.out.size Sg.out))
  clear hB hc
  obtain ⟨b, off, rfl, d0, d1⟩ := gr_at (k := 0) G7.out (by simp)
  simp only [Nat.zero_mul, Nat.add_zero, List.getElem_cons_zero] at d0 d1
  go_wp2_with fail
  have lf := life_calls w7 g s _ 0 B7.out (by omega)
  refine lf.mono ?_
  rintro e w' ⟨rfl, rfl⟩
  clear lf
  go_wp2_with fail
  go_ret
  exact ⟨rfl, H7.out⟩
end Go.Proofs.Ytolgfemjpkgloaa
