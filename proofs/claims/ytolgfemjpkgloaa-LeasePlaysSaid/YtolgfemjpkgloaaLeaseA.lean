/- The walks of layer 18: later ticks, one node, Hear. -/
import Derived.Test.YtolgfemjpkgloaaRows
import Derived.Test.YtolgfemjpkgloaaHeap
import Derived.Test.YtolgfemjpkgloaaLeaseMath
import Derived.Deep.RegionWith
import Derived.BigRegion
namespace Go.Proofs.Ytolgfemjpkgloaa
open Go.RowKit Go.Quad _root_.Quad.Lease

/-- a node's cells -/
def ndV (n : Nd) : List Value := [.int .u8 (n.st : Int), .int .u32 (n.life : Int), .int .u32 (n.heard : Int), .int .u32 (n.until' : Int)]
theorem ndV_length (n : Nd) : (ndV n).length = 4 := rfl

/-- a book in memory: at g its one field, at s its nodes -/
structure IsBook (w : World) (g s : Nat) (l : List Nd) : Prop where
  own : Blk w g [.slice (some ⟨s, 0, none⟩) l.length l.length] 60
  row : Blk w s (l.flatMap ndV) 64
  ne : g ≠ s
  ok : ∀ n ∈ l, okNd n
  small : l.length ≤ 16

theorem IsBook.keep {S : List Nat} {w w' : World} {g s : Nat} {l : List Nd} (h : IsBook w g s l) (hc : Chg S w w') (hg : g ∉ S) (hs : s ∉ S) : IsBook w' g s l :=
  ⟨h.own.keep hc hg, h.row.keep hc hs, h.ne, h.ok, h.small⟩

theorem IsBook.cells {w : World} {g s : Nat} {l : List Nd} (h : IsBook w g s l) {i : Nat} (hi : i < l.length) :
    w.cell? ⟨s, i * 4, none⟩ = some (.int .u8 ((l.getD i zero).st : Int)) ∧ w.cell? ⟨s, i * 4 + 1, none⟩ = some (.int .u32 ((l.getD i zero).life : Int)) ∧
    w.cell? ⟨s, i * 4 + 2, none⟩ = some (.int .u32 ((l.getD i zero).heard : Int)) ∧ w.cell? ⟨s, i * 4 + 3, none⟩ = some (.int .u32 ((l.getD i zero).until' : Int)) := by
  have hx : l[i]? = some (l.getD i zero) := by rw [List.getD_eq_getElem?_getD, List.getElem?_eq_getElem hi]; rfl
  have key : ∀ j, j < 4 → w.cell? ⟨s, i * 4 + j, none⟩ = (ndV (l.getD i zero))[j]? := fun j hj => by
    rw [h.row.cell]
    exact flat_get ndV 4 ndV_length l i j _ hx hj
  exact ⟨key 0 (by omega), key 1 (by omega), key 2 (by omega), key 3 (by omega)⟩

theorem later_in (w : World) (n : Int) (h0 : 0 ≤ n) (h1 : n ≤ 1000000) : Calls Try.prog 22 #[.int .i64 n] w fun e w' => e = .returned (.int .i64 n) ∧ w = w' := by
  go_enter Try.func22, Try.ntmps22
  go_wp2
  go_ret
  exact ⟨rfl, rfl⟩

theorem later_calls (w : World) (n : Nat) (h : n ≤ 4294967295) : Calls Try.prog 20 #[.int .u32 (n : Int), .int .i64 8] w fun e w' => e = .returned (.int .u32 (later8 n : Int)) ∧ w = w' := by
  have hn : (n : Int) ≤ 4294967295 := by omega
  have hl : (later8 n : Int) = if (n : Int) + 8 ≤ 4294967295 then (n : Int) + 8 else 4294967295 := by unfold later8; split <;> omega
  have Hl := hid hl
  clear hl
  go_enter Try.func20, Try.ntmps20
  go_wp2_with (go_at_call 22; refine (later_in _ _ (by omega) (by omega)).mono ?_; rintro e w' ⟨rfl, rfl⟩)
  all_goals (go_ret; refine ⟨?_, rfl⟩; rw [Hl.out])
  · rw [if_neg (by omega)]; rfl
  · rw [if_pos (by omega)]; rfl

set_option maxHeartbeats 400000 in
theorem of_calls (w : World) (g s : Nat) (l : List Nd) (i : Int) (h : IsBook w g s l) (hi : -9223372036854775808 ≤ i ∧ i ≤ 9223372036854775807) :
    Calls Try.prog 17 #[.pointer (some ⟨g, 0, none⟩), .int .i64 i] w fun e w' =>
      e = .returned (if i < 0 ∨ (l.length : Int) ≤ i then .pointer none else .pointer (some ⟨s, i.toNat * 4, none⟩)) ∧ w = w' := by
  have c0 : w.cell? ⟨g, 0, none⟩ = some (.slice (some ⟨s, 0, none⟩) l.length l.length) := by rw [h.own.cell]; rfl
  clear h
  by_cases h1 : i < 0
  · rw [if_pos (.inl h1)]
    go_enter Try.func17, Try.ntmps17
    go_wp2_with fail
    go_ret
    exact ⟨rfl, rfl⟩
  · have h1' : decide (i < 0) = false := by simpa using h1
    by_cases h2 : (l.length : Int) ≤ i
    · rw [if_pos (.inr h2)]
      go_enter Try.func17, Try.ntmps17
      go_wp2_with fail
      go_ret
      exact ⟨rfl, rfl⟩
    · rw [if_neg (by omega)]
      obtain ⟨k, rfl⟩ : ∃ k : Nat, i = k := ⟨i.toNat, by omega⟩
      have h2' : (k : Int) < (l.length : Int) := by omega
      clear h1 h1' h2 hi
      go_enter Try.func17, Try.ntmps17
      go_wp2_with fail
      go_ret
      exact ⟨rfl, rfl⟩

set_option maxHeartbeats 1000000 in
theorem grant_calls (w : World) (s i : Nat) (u now : Nat) (hc : w.cell? ⟨s, i * 4 + 3, none⟩ = some (.int .u32 (u : Int))) (hf : w.frozen? ⟨s, i * 4 + 3, none⟩ = false) (hu : u ≤ 4294967295) (hn : now ≤ 4294967295) :
    Calls Try.prog 18 #[.pointer (some ⟨s, i * 4, none⟩), .int .u32 (now : Int)] w fun e w' =>
      e = .returned (.tuple #[]) ∧ (w.setCell ⟨s, i * 4 + 3, none⟩ (.int .u32 ((max u (later8 now) : Nat) : Int))).drew = w' := by
  go_enter Try.func18, Try.ntmps18
  go_wp2_with fail
  go_region_with (go_at_call 20; refine (later_calls _ now hn).mono ?_; rintro e w' ⟨rfl, rfl⟩)
  all_goals go_wp2
  all_goals go_end0
  all_goals refine ⟨rfl, ?_⟩
  all_goals first | rw [show max u (later8 now) = later8 now from by omega] | rw [show max u (later8 now) = u from by omega]

/-- what Hear answers and leaves -/
def HearTo (w : World) (g s : Nat) (r : List Nd × Bool × Bool) (e : Ending) (w' : World) : Prop :=
  e = .returned (.tuple #[.bool r.2.1, .bool r.2.2]) ∧ IsBook w' g s r.1 ∧ Chg [s] w w'

theorem IsBook.set {w : World} {g s : Nat} {l : List Nd} (h : IsBook w g s l) {i j : Nat} {v : Value} {n' : Nd} (hi : i < l.length) (hj : j < 4) (hv : ndV n' = (ndV (l.getD i zero)).set j v) (hok : okNd n') :
    IsBook (w.setCell ⟨s, i * 4 + j, none⟩ v) g s (l.set i n') ∧ Chg [s] w (w.setCell ⟨s, i * 4 + j, none⟩ v) := by
  have hx : l[i]? = some (l.getD i zero) := by rw [List.getD_eq_getElem?_getD, List.getElem?_eq_getElem hi]; rfl
  refine ⟨⟨?_, ?_, h.ne, ?_, by rw [List.length_set]; exact h.small⟩, chg_setCell w s _ v⟩
  · have := h.own.keep (chg_setCell w s (i * 4 + j) v) (by simpa using h.ne)
    rwa [List.length_set]
  · have := h.row.set (i * 4 + j) v
    rwa [flat_set ndV 4 ndV_length l i j _ n' v hx hj hv] at this
  · intro n hn
    rcases List.mem_or_eq_of_mem_set hn with h1 | rfl
    · exact h.ok n h1
    · exact hok

theorem IsBook.okAt {w : World} {g s : Nat} {l : List Nd} (h : IsBook w g s l) {i : Nat} (hi : i < l.length) : okNd (l.getD i zero) := by
  rw [List.getD_eq_getElem?_getD, List.getElem?_eq_getElem hi]; exact h.ok _ (List.getElem_mem hi)

set_option maxHeartbeats 2000000 in
theorem hear_calls (w : World) (g s : Nat) (l : List Nd) (i : Int) (now life : Nat) (h : IsBook w g s l) (hi : -9223372036854775808 ≤ i ∧ i ≤ 9223372036854775807) (hn : now ≤ 4294967295) (hl : life ≤ 4294967295) :
    Calls Try.prog 9 #[.pointer (some ⟨g, 0, none⟩), .int .i64 i, .int .u32 (now : Int), .int .u32 (life : Int)] w (HearTo w g s (hearN l i now life)) := by
  have Hof := hid (of_calls w g s l i h hi)
  by_cases hout : i < 0 ∨ (l.length : Int) ≤ i
  · have e : hearN l i now life = (l, false, false) := by unfold hearN; rw [if_pos hout]
    rw [e]
    rw [if_pos hout] at Hof
    have Hbk := hid h
    clear e h hout
    go_enter Try.func9, Try.ntmps9
    go_wp2_with fail
    refine Hof.out.mono ?_
    rintro e w' ⟨rfl, rfl⟩
    go_wp2_with fail
    go_ret2
    exact ⟨rfl, Hbk.out, Chg.refl _ _⟩
  · rw [if_neg hout] at Hof
    obtain ⟨k, rfl⟩ : ∃ k : Nat, i = k := ⟨i.toNat, by omega⟩
    have hk : k < l.length := by omega
    rw [Int.toNat_natCast] at Hof
    obtain ⟨c0, c1, c2, c3⟩ := h.cells hk
    have f0 := h.row.free (k * 4)
    have f1 := h.row.free (k * 4 + 1)
    have f2 := h.row.free (k * 4 + 2)
    have f3 := h.row.free (k * 4 + 3)
    have e : hearN l k now life = (l.set k (hear1 (l.getD k zero) now life).1, (hear1 (l.getD k zero) now life).2) := by
      unfold hearN; rw [if_neg hout, Int.toNat_natCast]
    have hok := h.okAt hk
    have hset := fun (j : Nat) (v : Value) (n' : Nd) => h.set (i := k) (j := j) (v := v) (n' := n') hk
    have hself : l.set k (l.getD k zero) = l := by
      rw [List.getD_eq_getElem?_getD, List.getElem?_eq_getElem hk]; exact List.set_getElem_self hk
    rw [e]
    generalize hx : l.getD k zero = x at c0 c1 c2 c3 hok hset hself
    obtain ⟨st, lf, hd, un⟩ := x
    obtain ⟨o1, o2, o3, o4⟩ := hok
    dsimp only at c0 c1 c2 c3 o1 o2 o3 o4
    have Hset := hid hset
    have Hself := hid hself
    have Hbk := hid h
    clear hset hself h e hx hout hi
    by_cases hlt : life < lf
    · have e1 : hear1 ⟨st, lf, hd, un⟩ now life = (⟨st, lf, hd, un⟩, false, false) := by unfold hear1; rw [if_pos (.inl hlt)]
      rw [e1]
      have hlt' : (life : Int) < (lf : Int) := by omega
      clear e1 hlt
      go_enter Try.func9, Try.ntmps9
      go_wp2_with fail
      refine Hof.out.mono ?_
      rintro e w' ⟨rfl, rfl⟩
      go_wp2_with fail
      go_ret2
      rw [Hself.out]
      exact ⟨rfl, Hbk.out, Chg.refl _ _⟩
    by_cases heq : life = lf
    · subst heq
      by_cases hst : st = 0
      · subst hst
        have e1 : hear1 ⟨0, life, hd, un⟩ now life = (⟨0, life, hd, un⟩, false, false) := by unfold hear1; rw [if_pos (.inr ⟨rfl, rfl⟩)]
        rw [e1]
        clear e1 hlt
        go_enter Try.func9, Try.ntmps9
        go_wp2_with fail
        refine Hof.out.mono ?_
        rintro e w' ⟨rfl, rfl⟩
        go_wp2_with fail
        go_ret2
        rw [Hself.out]
        exact ⟨rfl, Hbk.out, Chg.refl _ _⟩
      · have e1 : hear1 ⟨st, life, hd, un⟩ now life = (⟨st, life, now, un⟩, false, false) := by
          unfold hear1; rw [if_neg (by simp; exact hst), if_pos rfl]
        rw [e1]
        have hst' : ((st : Int) == 0) = false := by rw [beq_eq_false_iff_ne]; omega
        have Hend := hid (Hset.out 2 (.int .u32 (now : Int)) ⟨st, life, now, un⟩ (by omega) rfl ⟨o1, o2, hn, o4⟩)
        clear e1 hlt hst
        go_enter Try.func9, Try.ntmps9
        go_wp2_with fail
        refine Hof.out.mono ?_
        rintro e w' ⟨rfl, rfl⟩
        go_wp2_with fail
        go_ret2
        exact ⟨rfl, Hend.out.1, Hend.out.2⟩
    · have hgt : lf < life := by omega
      have e1 : hear1 ⟨st, lf, hd, un⟩ now life = (⟨1, life, now, max un (later8 now)⟩, true, decide (st ≠ 0)) := by
        unfold hear1; rw [if_neg (by simp; omega), if_neg (by simpa using heq)]
      rw [e1]
      have hlt1 : ¬ ((life : Int) < (lf : Int)) := by omega
      have hne1 : ((life : Int) == (lf : Int)) = false := by rw [beq_eq_false_iff_ne]; omega
      have hst1 : ((st : Int) != 0) = decide (st ≠ 0) := by
        rw [Bool.eq_iff_iff]; simp
      obtain ⟨b1, g1⟩ := Hset.out 0 (.int .u8 1) ⟨1, lf, hd, un⟩ (by omega) rfl ⟨by simp, o2, o3, o4⟩
      have hk1 : k < (l.set k ⟨1, lf, hd, un⟩).length := by rw [List.length_set]; exact hk
      have x1 : (l.set k ⟨1, lf, hd, un⟩).getD k zero = ⟨1, lf, hd, un⟩ := by rw [List.getD_eq_getElem?_getD, List.getElem?_set_self hk]; rfl
      obtain ⟨b2, g2⟩ := b1.set (i := k) (j := 1) (v := .int .u32 (life : Int)) (n' := ⟨1, life, hd, un⟩) hk1 (by omega) (by rw [x1]; rfl) ⟨by simp, hl, o3, o4⟩
      rw [List.set_set] at b2
      have hk2 : k < (l.set k ⟨1, life, hd, un⟩).length := by rw [List.length_set]; exact hk
      have x2 : (l.set k ⟨1, life, hd, un⟩).getD k zero = ⟨1, life, hd, un⟩ := by rw [List.getD_eq_getElem?_getD, List.getElem?_set_self hk]; rfl
      obtain ⟨b3, g3⟩ := b2.set (i := k) (j := 2) (v := .int .u32 (now : Int)) (n' := ⟨1, life, now, un⟩) hk2 (by omega) (by rw [x2]; rfl) ⟨by simp, hl, hn, o4⟩
      rw [List.set_set] at b3
      have hk3 : k < (l.set k ⟨1, life, now, un⟩).length := by rw [List.length_set]; exact hk
      have x3 : (l.set k ⟨1, life, now, un⟩).getD k zero = ⟨1, life, now, un⟩ := by rw [List.getD_eq_getElem?_getD, List.getElem?_set_self hk]; rfl
      obtain ⟨_, _, _, d3⟩ := b3.cells hk3
      rw [x3] at d3
      have G := hid (grant_calls _ s k un now d3 (b3.row.free _) o4 hn)
      obtain ⟨b4, g4⟩ := b3.set (i := k) (j := 3) (v := .int .u32 ((max un (later8 now) : Nat) : Int)) (n' := ⟨1, life, now, max un (later8 now)⟩) hk3 (by omega) (by rw [x3]; rfl) ⟨by simp, hl, hn, Nat.max_le.2 ⟨o4, later8_le now⟩⟩
      rw [List.set_set] at b4
      rw [Nat.add_zero] at b4 g4 g3 g2 g1 G
      have B4 := hid b4
      have G4 := hid (((g1.trans g2).trans g3).trans g4)
      clear e1 hlt heq hgt b1 b2 b3 b4 g1 g2 g3 g4 d3 x1 x2 x3 hk1 hk2 hk3
      go_enter Try.func9, Try.ntmps9
      go_wp2_with fail
      refine Hof.out.mono ?_
      rintro e w' ⟨rfl, rfl⟩
      go_wp2_with fail
      refine G.out.mono ?_
      rintro e w' ⟨rfl, rfl⟩
      clear hst1 hlt1 hne1
      go_wp2_with fail
      go_ret2
      refine ⟨?_, B4.out.keep (Chg.of_below [] (below_drew _)) (by simp) (by simp), G4.out.trans (Chg.of_below _ (below_drew _))⟩
      simp
end Go.Proofs.Ytolgfemjpkgloaa
