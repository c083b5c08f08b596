/- The walk of a book's tick. -/
import Derived.Test.YtolgfemjpkgloaaLeaseB
namespace Go.Proofs.Ytolgfemjpkgloaa
open Go.RowKit Go.Quad _root_.Quad.Lease

theorem tk_len (l : List Nd) {k : Nat} (now : Nat) (hk : k ≤ l.length) : ((tickN (l.take k) 0 now).1 ++ l.drop k).length = l.length := by
  rw [List.length_append, tickN_length, List.length_take, List.length_drop]; omega
theorem tk_get (l : List Nd) {k : Nat} (now : Nat) (hk : k < l.length) : ((tickN (l.take k) 0 now).1 ++ l.drop k).getD k zero = l[k] := by
  have hl : (tickN (l.take k) 0 now).1.length = k := by rw [tickN_length, List.length_take]; omega
  rw [List.getD_eq_getElem?_getD, List.getElem?_append_right (by omega), hl, Nat.sub_self, List.drop_eq_getElem_cons hk]
  rfl
theorem tk_set (l : List Nd) {k : Nat} (now : Nat) (hk : k < l.length) (n : Nd) : ((tickN (l.take k) 0 now).1 ++ l.drop k).set k n = (tickN (l.take k) 0 now).1 ++ [n] ++ l.drop (k + 1) := by
  have hl : (tickN (l.take k) 0 now).1.length = k := by rw [tickN_length, List.length_take]; omega
  rw [List.set_append_right _ _ (by omega), hl, Nat.sub_self, List.drop_eq_getElem_cons hk, List.set_cons_zero, List.append_assoc]
  rfl
theorem tk_next (l : List Nd) {k : Nat} (now : Nat) (hk : k < l.length) : tickN (l.take (k + 1)) 0 now =
    ((tickN (l.take k) 0 now).1 ++ [(tick1 l[k] now).1], (tickN (l.take k) 0 now).2.1 ++ (if (tick1 l[k] now).2.1 then [(k, (tick1 l[k] now).1.until')] else []), (tickN (l.take k) 0 now).2.2 ++ (if (tick1 l[k] now).2.2 then [k] else [])) := by
  have hl : (l.take k).length = k := by rw [List.length_take]; omega
  rw [List.take_succ_eq_append_getElem hk, tickN_append, hl]
  simp [tickN]

theorem tickN_le : ∀ (l : List Nd) (k now : Nat), (tickN l k now).2.1.length ≤ l.length ∧ (tickN l k now).2.2.length ≤ l.length
  | [], _, _ => by simp [tickN]
  | n :: l, k, now => by
    have h := tickN_le l (k + 1) now
    simp only [tickN, List.length_append, List.length_cons]
    constructor
    · split <;> simp <;> omega
    · split <;> simp <;> omega

/-- a book, grants and who is Away, apart -/
structure Tk (w0 w : World) (g s : Nat) (L : List Nd) (gv : Value) (gs : List (Nat × Nat)) (av : Value) (ws : List Nat) : Prop where
  book : IsBook w g s L
  gr : RO grV 2 w w0.heap.size 36 gv gs
  aw : RO inV 1 w w0.heap.size 3 av ws
  chg : Chg [s] w0 w
  old : g < w0.heap.size ∧ s < w0.heap.size
  dis : ∀ q, gv.ownBlock = some q → av.ownBlock ≠ some q

theorem Tk.below {w0 w w' : World} {g s : Nat} {L : List Nd} {gv av : Value} {gs : List (Nat × Nat)} {ws : List Nat} (h : Tk w0 w g s L gv gs av ws) (hb : Below w.heap.size w w') : Tk w0 w' g s L gv gs av ws :=
  ⟨h.book.keep (Chg.of_below [] hb) (by simp) (by simp), h.gr.below hb, h.aw.below hb, h.chg.trans (Chg.of_below _ hb), h.old, h.dis⟩

theorem Tk.put {w0 w w' : World} {g s : Nat} {L L' : List Nd} {gv av : Value} {gs : List (Nat × Nat)} {ws : List Nat} (h : Tk w0 w g s L gv gs av ws) (hB : IsBook w' g s L') (hc : Chg [s] w w') : Tk w0 w' g s L' gv gs av ws :=
  ⟨hB, h.gr.chg hc (fun k hk hm => by simp at hm; have := (h.gr.ownBlock k hk).1; have := h.old; omega), h.aw.chg hc (fun k hk hm => by simp at hm; have := (h.aw.ownBlock k hk).1; have := h.old; omega), h.chg.trans hc, h.old, h.dis⟩

theorem Tk.grant {w0 w w' : World} {g s : Nat} {L : List Nd} {gv gv' av : Value} {gs gs' : List (Nat × Nat)} {ws : List Nat} (h : Tk w0 w g s L gv gs av ws)
    (ho : RO grV 2 w' w0.heap.size 36 gv' gs') (hg : w.grownBy w' gv.ownBlock) (hw : gv'.ownBlock = gv.ownBlock ∨ gv'.ownBlock = some w.heap.size) : Tk w0 w' g s L gv' gs' av ws := by
  have hS : ∀ k ∈ gv.ownBlock.toList, w0.heap.size ≤ k ∧ av.ownBlock ≠ some k := fun k hk => ⟨(h.gr.ownBlock k (by simpa using hk)).1, h.dis k (by simpa using hk)⟩
  refine ⟨h.book.keep (chg_grown hg) (fun hm => by have := (hS _ hm).1; have := h.old; omega) (fun hm => by have := (hS _ hm).1; have := h.old; omega), ho, h.aw.chg (chg_grown hg) (fun k hk hm => (hS k hm).2 hk),
    h.chg.newer (chg_grown hg) (fun q hq => (hS q hq).1), h.old, fun q hq he => ?_⟩
  · rcases hw with e | e
    · rw [e] at hq; exact h.dis q hq he
    · rw [e] at hq; cases hq; have := (h.aw.ownBlock _ he).2; omega

theorem Tk.gone {w0 w w' : World} {g s : Nat} {L : List Nd} {gv av av' : Value} {gs : List (Nat × Nat)} {ws ws' : List Nat} (h : Tk w0 w g s L gv gs av ws)
    (ho : RO inV 1 w' w0.heap.size 3 av' ws') (hg : w.grownBy w' av.ownBlock) (hw : av'.ownBlock = av.ownBlock ∨ av'.ownBlock = some w.heap.size) : Tk w0 w' g s L gv gs av' ws' := by
  have hS : ∀ k ∈ av.ownBlock.toList, w0.heap.size ≤ k ∧ gv.ownBlock ≠ some k := fun k hk => ⟨(h.aw.ownBlock k (by simpa using hk)).1, fun he => h.dis k he (by simpa using hk)⟩
  refine ⟨h.book.keep (chg_grown hg) (fun hm => by have := (hS _ hm).1; have := h.old; omega) (fun hm => by have := (hS _ hm).1; have := h.old; omega), h.gr.chg (chg_grown hg) (fun k hk hm => (hS k hm).2 hk), ho,
    h.chg.newer (chg_grown hg) (fun q hq => (hS q hq).1), h.old, fun q hq he => ?_⟩
  rcases hw with e | e
  · rw [e] at he; exact h.dis q hq he
  · rw [e] at he; cases he; have := (h.gr.ownBlock _ hq).2; omega

/-- what a tick answers and leaves -/
def TickTo (w : World) (g s : Nat) (r : List Nd × List (Nat × Nat) × List Nat) (e : Ending) (w' : World) : Prop :=
  ∃ gv av, e = .returned (.tuple #[gv, av]) ∧ Tk w w' g s r.1 gv r.2.1 av r.2.2

def TkRel (w0 : World) (g s : Nat) (l : List Nd) (now : Nat) (gv av i : Value) (w : World) : Prop :=
  ∃ k : Nat, i = .int .i64 (k : Int) ∧ k ≤ l.length ∧ Tk w0 w g s ((tickN (l.take k) 0 now).1 ++ l.drop k) gv (tickN (l.take k) 0 now).2.1 av (tickN (l.take k) 0 now).2.2

set_option maxRecDepth 20000 in
set_option maxHeartbeats 4000000 in
theorem tick_calls (w : World) (g s : Nat) (l : List Nd) (now : Nat) (h : IsBook w g s l) (hn : now ≤ 4294967295) :
    Calls Try.prog 10 #[.pointer (some ⟨g, 0, none⟩), .int .u32 (now : Int)] w (TickTo w g s (tickN l 0 now)) := by
  have c0 : w.cell? ⟨g, 0, none⟩ = some (.slice (some ⟨s, 0, none⟩) l.length l.length) := by rw [h.own.cell]; rfl
  have hls := h.small
  have Hlt := hid (And.intro h.own.lt h.row.lt)
  have H := hid h
  have hn' : (now : Int) ≤ 4294967295 := by omega
  clear h
  go_enter Try.func10, Try.ntmps10
  go_wp2_with fail
  go_loopw [6, 7, 17] (fun gv av i wr => TkRel w g s l now gv av i wr) (fun _ _ i _ => l.length - (intOf i).toNat)
  case atStart => exact ⟨0, rfl, Nat.zero_le _, ⟨by simpa [tickN] using H.out, RO.nil _ _ _ _ _, RO.nil _ _ _ _ _, Chg.refl _ _, Hlt.out, by simp [Value.ownBlock]⟩⟩
  case round =>
    clear c0
    obtain ⟨k, rfl, hk, hT⟩ := hrel
    have T := hid hT
    clear hT
    by_cases hkl : k < l.length
    · have hkl' : (k : Int) < (l.length : Int) := by omega
      have hL := tk_len l now hk
      have c0 : wr.cell? ⟨g, 0, none⟩ = some (.slice (some ⟨s, 0, none⟩) l.length l.length) := by rw [T.out.book.own.cell, hL]; rfl
      have hkL : k < ((tickN (l.take k) 0 now).1 ++ l.drop k).length := by rw [hL]; exact hkl
      obtain ⟨b0, b1, b2, b3⟩ := T.out.book.cells hkL
      have hok := T.out.book.okAt hkL
      have f0 := T.out.book.row.free (k * 4)
      have f3 := T.out.book.row.free (k * 4 + 3)
      rw [tk_get l now hkl] at b0 b1 b2 b3 hok
      have St := hid (fun (w' : World) (n : Nd) (hB : IsBook w' g s (((tickN (l.take k) 0 now).1 ++ l.drop k).set k n)) => (by rw [tk_set l now hkl n] at hB; exact hB : IsBook w' g s ((tickN (l.take k) 0 now).1 ++ [n] ++ l.drop (k + 1))))
      have SELF := hid (show ((tickN (l.take k) 0 now).1 ++ l.drop k).set k l[k] = (tickN (l.take k) 0 now).1 ++ l.drop k by rw [tk_set l now hkl, List.append_assoc, List.singleton_append, ← List.drop_eq_getElem_cons hkl])
      have Nx := hid (tk_next l now hkl)
      have hst := fun (j : Nat) (v : Value) (n' : Nd) => T.out.book.set (i := k) (j := j) (v := v) (n' := n') hkL
      rw [tk_get l now hkl] at hst
      have Len := hid (tickN_le (l.take k) 0 now)
      have Ltk := hid (show (l.take k).length ≤ 16 by rw [List.length_take]; omega)
      generalize l[k] = x at b0 b1 b2 b3 hok Nx hst SELF
      obtain ⟨st, lf, hd, un⟩ := x
      obtain ⟨o1, o2, o3, o4⟩ := hok
      dsimp only at b0 b1 b2 b3 o1 o2 o3 o4
      have Hst := hid hst
      clear hst hL hkL
      have Hk := hid hk
      have SrcA : Kept (∀ W : World, W.heap.size = wr.heap.size → CS (W.alloc (.cells #[.int .i64 (k : Int)] 3)) (some ⟨wr.heap.size, 0, none⟩) 1 1 [.int .i64 (k : Int)]) := ⟨fun W hW => by rw [← hW]; exact cs_lit W [.int .i64 (k : Int)] 3 1 1 rfl (by simp [maxLen])⟩
      have SrcG : Kept (∀ W : World, W.heap.size = wr.heap.size → CS (W.alloc (.cells #[.int .i64 (k : Int), .int .u32 ((max un (later8 now) : Nat) : Int)] 36)).drew (some ⟨wr.heap.size, 0, none⟩) 1 2 [.int .i64 (k : Int), .int .u32 ((max un (later8 now) : Nat) : Int)]) := ⟨fun W hW => by rw [← hW]; exact (cs_lit W [.int .i64 (k : Int), .int .u32 ((max un (later8 now) : Nat) : Int)] 36 1 2 rfl (by simp [maxLen])).below (below_drew _)⟩
      by_cases s0 : st = 0
      · subst s0
        have N1 := hid (show tickN (l.take (k + 1)) 0 now = ((tickN (l.take k) 0 now).1 ++ [⟨0, lf, hd, un⟩], (tickN (l.take k) 0 now).2.1, (tickN (l.take k) 0 now).2.2) from by
          rw [Nx.out, show tick1 ⟨0, lf, hd, un⟩ now = (⟨0, lf, hd, un⟩, false, false) from by unfold tick1; dsimp only; rw [if_neg (by omega), if_pos (by omega)]]
          simp)
        have Tn : Kept (Tk w wr g s ((tickN (l.take k) 0 now).1 ++ [⟨0, lf, hd, un⟩] ++ l.drop (k + 1)) u6 (tickN (l.take k) 0 now).2.1 u7 (tickN (l.take k) 0 now).2.2) := ⟨by
          have := T.out.put (St.out wr ⟨0, lf, hd, un⟩ (by rw [SELF.out]; exact T.out.book)) (Chg.refl _ _)
          exact this⟩
        go_wp2_with fail
        have RR : TkRel w g s l now _ _ (.int .i64 ((k : Int) + 1)) _ := ⟨k + 1, by go_num, by omega, by rw [N1.out]; exact Tn.out⟩
        refine ⟨?_, by simp [intOf]; omega⟩
        first | exact RR | ((repeat apply Exists.intro); refine ⟨RR, ?_⟩; and_intros <;> rfl)
      by_cases s2 : st = 2
      · subst s2
        by_cases hlt : un < now
        · have q3 : (un : Int) < (now : Int) := by omega
          have N1 := hid (show tickN (l.take (k + 1)) 0 now = ((tickN (l.take k) 0 now).1 ++ [⟨0, lf, hd, un⟩], (tickN (l.take k) 0 now).2.1, (tickN (l.take k) 0 now).2.2 ++ [k]) from by
            rw [Nx.out, show tick1 ⟨2, lf, hd, un⟩ now = (⟨0, lf, hd, un⟩, false, true) from by unfold tick1; dsimp only; rw [if_neg (by omega), if_neg (by omega), if_pos (by omega)]]
            simp)
          obtain ⟨hb1, hc1⟩ := Hst.out 0 (.int .u8 0) ⟨0, lf, hd, un⟩ (by omega) rfl ⟨by simp, o2, o3, o4⟩
          rw [Nat.add_zero] at hb1 hc1
          have Tn := hid (T.out.put (St.out _ _ hb1) hc1)
          have Ta := hid (Tn.out.below (below_alloc _ (.cells #[.int .i64 (k : Int)] 3)))
          clear hb1 hc1
          go_wp2_with (at_builtin; go_must (refine wpList_append_ro inV_length inV_one (by decide) (.tmp 86) (.tmp 88) _ rfl rfl w.heap.size 3 _ 8 info_int rfl under_ints _ _ Ta.out.aw rfl (l' := [k]) rfl (SrcA.out _ (by simp)) (Nat.le_refl _) rfl (by have := Len.out; have := Ltk.out; simp; omega) Ta.out.chg.size ?_; intro v6 w6 ho6 hb6 hg6 hw6; have T6 := hid (Ta.out.gone ho6 hg6 hw6); clear ho6 hb6 hg6 hw6))
          have RR : TkRel w g s l now _ v6 (.int .i64 ((k : Int) + 1)) _ := ⟨k + 1, by go_num, by omega, by rw [N1.out]; exact T6.out⟩
          refine ⟨?_, by simp [intOf]; omega⟩
          first | exact RR | ((repeat apply Exists.intro); refine ⟨RR, ?_⟩; and_intros <;> rfl)
        · have q3 : ¬ ((un : Int) < (now : Int)) := by omega
          have N1 := hid (show tickN (l.take (k + 1)) 0 now = ((tickN (l.take k) 0 now).1 ++ [⟨2, lf, hd, un⟩], (tickN (l.take k) 0 now).2.1, (tickN (l.take k) 0 now).2.2) from by
            rw [Nx.out, show tick1 ⟨2, lf, hd, un⟩ now = (⟨2, lf, hd, un⟩, false, false) from by unfold tick1; dsimp only; rw [if_neg (by omega), if_neg (by omega), if_neg (by omega)]]
            simp)
          have Tn : Kept (Tk w wr g s ((tickN (l.take k) 0 now).1 ++ [⟨2, lf, hd, un⟩] ++ l.drop (k + 1)) u6 (tickN (l.take k) 0 now).2.1 u7 (tickN (l.take k) 0 now).2.2) := ⟨by
            have := T.out.put (St.out wr ⟨2, lf, hd, un⟩ (by rw [SELF.out]; exact T.out.book)) (Chg.refl _ _)
            exact this⟩
          go_wp2_with fail
          have RR : TkRel w g s l now _ _ (.int .i64 ((k : Int) + 1)) _ := ⟨k + 1, by go_num, by omega, by rw [N1.out]; exact Tn.out⟩
          refine ⟨?_, by simp [intOf]; omega⟩
          first | exact RR | ((repeat apply Exists.intro); refine ⟨RR, ?_⟩; and_intros <;> rfl)
      obtain rfl : st = 1 := by omega
      by_cases hq : hd ≤ now ∧ 4 ≤ now - hd
      · by_cases hlt : un < now
        · have q1 : (hd : Int) ≤ (now : Int) := by omega
          have q2 : (4 : Int) ≤ (now : Int) - (hd : Int) := by omega
          have q3 : (un : Int) < (now : Int) := by omega
          have N1 := hid (show tickN (l.take (k + 1)) 0 now = ((tickN (l.take k) 0 now).1 ++ [⟨0, lf, hd, un⟩], (tickN (l.take k) 0 now).2.1, (tickN (l.take k) 0 now).2.2 ++ [k]) from by
            rw [Nx.out, show tick1 ⟨1, lf, hd, un⟩ now = (⟨0, lf, hd, un⟩, false, true) from by unfold tick1; dsimp only; rw [if_neg (by omega), if_neg (by omega), if_pos (by omega)]]
            simp)
          obtain ⟨hb1, hc1⟩ := Hst.out 0 (.int .u8 2) ⟨2, lf, hd, un⟩ (by omega) rfl ⟨by simp, o2, o3, o4⟩
          have hkk : k < (((tickN (l.take k) 0 now).1 ++ l.drop k).set k ⟨2, lf, hd, un⟩).length := by rw [List.length_set, tk_len l now hk]; exact hkl
          have xg : (((tickN (l.take k) 0 now).1 ++ l.drop k).set k ⟨2, lf, hd, un⟩).getD k zero = ⟨2, lf, hd, un⟩ := by rw [List.getD_eq_getElem?_getD, List.getElem?_set_self (by rw [tk_len l now hk]; exact hkl)]; rfl
          obtain ⟨hb2, hc2⟩ := hb1.set (i := k) (j := 0) (v := .int .u8 0) (n' := ⟨0, lf, hd, un⟩) hkk (by omega) (by rw [xg]; rfl) ⟨by simp, o2, o3, o4⟩
          rw [List.set_set, Nat.add_zero] at hb2
          rw [Nat.add_zero] at hc1 hc2
          have Tn := hid (T.out.put (St.out _ _ hb2) (hc1.trans hc2))
          have Ta := hid (Tn.out.below (below_alloc _ (.cells #[.int .i64 (k : Int)] 3)))
          clear hb1 hc1 hkk xg hb2 hc2
          go_wp2_with (at_builtin; go_must (refine wpList_append_ro inV_length inV_one (by decide) (.tmp 86) (.tmp 88) _ rfl rfl w.heap.size 3 _ 8 info_int rfl under_ints _ _ Ta.out.aw rfl (l' := [k]) rfl (SrcA.out _ (by simp)) (Nat.le_refl _) rfl (by have := Len.out; have := Ltk.out; simp; omega) Ta.out.chg.size ?_; intro v6 w6 ho6 hb6 hg6 hw6; have T6 := hid (Ta.out.gone ho6 hg6 hw6); clear ho6 hb6 hg6 hw6))
          have RR : TkRel w g s l now _ v6 (.int .i64 ((k : Int) + 1)) _ := ⟨k + 1, by go_num, by omega, by rw [N1.out]; exact T6.out⟩
          refine ⟨?_, by simp [intOf]; omega⟩
          first | exact RR | ((repeat apply Exists.intro); refine ⟨RR, ?_⟩; and_intros <;> rfl)
        · have q1 : (hd : Int) ≤ (now : Int) := by omega
          have q2 : (4 : Int) ≤ (now : Int) - (hd : Int) := by omega
          have q3 : ¬ ((un : Int) < (now : Int)) := by omega
          have N1 := hid (show tickN (l.take (k + 1)) 0 now = ((tickN (l.take k) 0 now).1 ++ [⟨2, lf, hd, un⟩], (tickN (l.take k) 0 now).2.1, (tickN (l.take k) 0 now).2.2) from by
            rw [Nx.out, show tick1 ⟨1, lf, hd, un⟩ now = (⟨2, lf, hd, un⟩, false, false) from by unfold tick1; dsimp only; rw [if_neg (by omega), if_neg (by omega), if_neg (by omega)]]
            simp)
          obtain ⟨hb1, hc1⟩ := Hst.out 0 (.int .u8 2) ⟨2, lf, hd, un⟩ (by omega) rfl ⟨by simp, o2, o3, o4⟩
          rw [Nat.add_zero] at hb1 hc1
          have Tn := hid (T.out.put (St.out _ _ hb1) hc1)
          clear hb1 hc1
          go_wp2_with fail
          have RR : TkRel w g s l now _ _ (.int .i64 ((k : Int) + 1)) _ := ⟨k + 1, by go_num, by omega, by rw [N1.out]; exact Tn.out⟩
          refine ⟨?_, by simp [intOf]; omega⟩
          first | exact RR | ((repeat apply Exists.intro); refine ⟨RR, ?_⟩; and_intros <;> rfl)
      · by_cases hh : hd ≤ now
        · have q1 : (hd : Int) ≤ (now : Int) := by omega
          have q2 : ¬ ((4 : Int) ≤ (now : Int) - (hd : Int)) := by omega
          have N1 := hid (show tickN (l.take (k + 1)) 0 now = ((tickN (l.take k) 0 now).1 ++ [⟨1, lf, hd, max un (later8 now)⟩], (tickN (l.take k) 0 now).2.1 ++ [(k, max un (later8 now))], (tickN (l.take k) 0 now).2.2) from by
            rw [Nx.out, show tick1 ⟨1, lf, hd, un⟩ now = (⟨1, lf, hd, max un (later8 now)⟩, true, false) from by unfold tick1; dsimp only; rw [if_pos ⟨rfl, by omega⟩]]
            simp)
          obtain ⟨hb1, hc1⟩ := Hst.out 3 (.int .u32 ((max un (later8 now) : Nat) : Int)) ⟨1, lf, hd, max un (later8 now)⟩ (by omega) rfl ⟨by simp, o2, o3, Nat.max_le.2 ⟨o4, later8_le now⟩⟩
          have Tn := hid (T.out.put (St.out _ _ hb1) hc1)
          have Ta := hid (Tn.out.below (below_alloc _ (.cells #[.int .i64 (k : Int), .int .u32 ((max un (later8 now) : Nat) : Int)] 36)) |>.below (below_drew _))
          have G := hid (grant_calls wr s k un now b3 f3 o4 hn)
          clear hb1 hc1
          go_wp2_with fail
          refine G.out.mono ?_
          rintro e w' ⟨rfl, rfl⟩
          go_wp2_with (at_builtin; go_must (refine wpList_append_ro grV_length grV_one (by decide) (.tmp 60) (.tmp 67) _ rfl rfl w.heap.size 36 _ 16 info_grant rfl under_grants _ _ Ta.out.gr rfl (l' := [(k, max un (later8 now))]) rfl (SrcG.out _ (by simp)) (Nat.le_refl _) rfl (by have := Len.out; have := Ltk.out; simp; omega) Ta.out.chg.size ?_; intro v6 w6 ho6 hb6 hg6 hw6; have T6 := hid (Ta.out.grant ho6 hg6 hw6); clear ho6 hb6 hg6 hw6))
          have RR : TkRel w g s l now v6 _ (.int .i64 ((k : Int) + 1)) _ := ⟨k + 1, by go_num, by omega, by rw [N1.out]; exact T6.out⟩
          refine ⟨?_, by simp [intOf]; omega⟩
          first | exact RR | ((repeat apply Exists.intro); refine ⟨RR, ?_⟩; and_intros <;> rfl)
        · have q1 : ¬ ((hd : Int) ≤ (now : Int)) := by omega
          have N1 := hid (show tickN (l.take (k + 1)) 0 now = ((tickN (l.take k) 0 now).1 ++ [⟨1, lf, hd, max un (later8 now)⟩], (tickN (l.take k) 0 now).2.1 ++ [(k, max un (later8 now))], (tickN (l.take k) 0 now).2.2) from by
            rw [Nx.out, show tick1 ⟨1, lf, hd, un⟩ now = (⟨1, lf, hd, max un (later8 now)⟩, true, false) from by unfold tick1; dsimp only; rw [if_pos ⟨rfl, by omega⟩]]
            simp)
          obtain ⟨hb1, hc1⟩ := Hst.out 3 (.int .u32 ((max un (later8 now) : Nat) : Int)) ⟨1, lf, hd, max un (later8 now)⟩ (by omega) rfl ⟨by simp, o2, o3, Nat.max_le.2 ⟨o4, later8_le now⟩⟩
          have Tn := hid (T.out.put (St.out _ _ hb1) hc1)
          have Ta := hid (Tn.out.below (below_alloc _ (.cells #[.int .i64 (k : Int), .int .u32 ((max un (later8 now) : Nat) : Int)] 36)) |>.below (below_drew _))
          have G := hid (grant_calls wr s k un now b3 f3 o4 hn)
          clear hb1 hc1
          go_wp2_with fail
          refine G.out.mono ?_
          rintro e w' ⟨rfl, rfl⟩
          go_wp2_with (at_builtin; go_must (refine wpList_append_ro grV_length grV_one (by decide) (.tmp 60) (.tmp 67) _ rfl rfl w.heap.size 36 _ 16 info_grant rfl under_grants _ _ Ta.out.gr rfl (l' := [(k, max un (later8 now))]) rfl (SrcG.out _ (by simp)) (Nat.le_refl _) rfl (by have := Len.out; have := Ltk.out; simp; omega) Ta.out.chg.size ?_; intro v6 w6 ho6 hb6 hg6 hw6; have T6 := hid (Ta.out.grant ho6 hg6 hw6); clear ho6 hb6 hg6 hw6))
          have RR : TkRel w g s l now v6 _ (.int .i64 ((k : Int) + 1)) _ := ⟨k + 1, by go_num, by omega, by rw [N1.out]; exact T6.out⟩
          refine ⟨?_, by simp [intOf]; omega⟩
          first | exact RR | ((repeat apply Exists.intro); refine ⟨RR, ?_⟩; and_intros <;> rfl)
    · have hke : k = l.length := by omega
      have hkl' : ¬ ((k : Int) < (l.length : Int)) := by omega
      have T9 : Kept (Tk w wr g s (tickN l 0 now).1 u6 (tickN l 0 now).2.1 u7 (tickN l 0 now).2.2) := ⟨by
        have := T.out
        rw [hke, List.take_length, List.drop_length, List.append_nil] at this
        exact this⟩
      clear hke
      go_wp2_with fail
      go_ret2
      exact ⟨_, _, rfl, T9.out⟩
end Go.Proofs.Ytolgfemjpkgloaa
