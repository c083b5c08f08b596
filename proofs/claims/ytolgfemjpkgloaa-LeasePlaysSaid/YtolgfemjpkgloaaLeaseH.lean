/- The walks of the document's Hear and Tick. -/
import Derived.Test.YtolgfemjpkgloaaLeaseG
import Derived.Deep.CutBlock
namespace Go.Proofs.Ytolgfemjpkgloaa
open Go.RowKit Go.Quad _root_.Quad.Lease

def RefHearTo (w : World) (a0 : Option Addr) (r : List Nd × Bool × Bool) (e : Ending) (w' : World) : Prop :=
  ∃ a n c, e = .returned (.tuple #[.slice a n c, .bool r.2.1, .bool r.2.2]) ∧ r.1.length = n ∧ RN w' a c r.1 ∧ Below w.heap.size w w' ∧ (a = a0 ∨ ∀ x, a = some x → w.heap.size ≤ x.block)

theorem set_self {l : List Nd} {k : Nat} (hk : k < l.length) : l.set k l[k] = l := List.set_getElem_self hk

set_option maxRecDepth 20000 in
set_option maxHeartbeats 4000000 in
theorem refhear_calls (w : World) (a : Option Addr) (n cap : Nat) (L : List Nd) (i : Int) (now life : Nat) (h : RN w a cap L) (hL : L.length = n) (hi : -9223372036854775808 ≤ i ∧ i ≤ 9223372036854775807) (hn : now ≤ 4294967295) (hl : life ≤ 4294967295) :
    Calls Try.prog 13 #[.slice a n cap, .int .i64 i, .int .u32 (now : Int), .int .u32 (life : Int)] w (RefHearTo w a (hearN L i now life)) := by
  have HL := hid hL
  have h16 : (n : Int) ≤ 16 := by have := h.small; omega
  have H := hid h
  by_cases hout : i < 0 ∨ (L.length : Int) ≤ i
  · have e : hearN L i now life = (L, false, false) := by unfold hearN; rw [if_pos hout]
    rw [e]
    rw [hL] at hout
    clear h e hL
    by_cases h0 : i < 0
    · clear hout
      go_enter Try.func13, Try.ntmps13
      go_wp2_with fail
      go_ret3
      exact ⟨a, n, cap, rfl, HL.out, H.out, Below.refl _ _, .inl rfl⟩
    · have h0' : decide (i < 0) = false := by simpa using h0
      have h1 : (n : Int) ≤ i := by omega
      clear hout
      go_enter Try.func13, Try.ntmps13
      go_wp2_with fail
      go_ret3
      exact ⟨a, n, cap, rfl, HL.out, H.out, Below.refl _ _, .inl rfl⟩
  · obtain ⟨k, rfl⟩ : ∃ k : Nat, i = k := ⟨i.toNat, by omega⟩
    have hk : k < L.length := by omega
    have e : hearN L k now life = (L.set k (hear1 L[k] now life).1, (hear1 L[k] now life).2) := by
      unfold hearN; rw [if_neg hout, Int.toNat_natCast, List.getD_eq_getElem?_getD, List.getElem?_eq_getElem hk]; rfl
    rw [e]
    have hok := h.ok _ (List.getElem_mem hk)
    have hkn : (k : Int) < (n : Int) := by omega
    have hown := RO.empty ndV 4 w 52
    have hsrc := h.row.below (below_alloc w (.cells #[] 52))
    have Hown := hid hown
    have Hsrc := hid hsrc
    have Hfit := hid h.fit
    have Hsm := hid h.small
    have Hokall := hid h.ok
    clear h e hL hout hi hown hsrc
    go_enter Try.func13, Try.ntmps13
    go_upto_region 4 with (at_builtin; go_must (refine wpList_append_ro ndV_length ndV_one (by decide) (.tmp 22) (.tmp 23) _ rfl rfl w.heap.size 52 _ 16 info_rnode rfl under_rnodes _ _ Hown.out rfl HL.out Hsrc.out (by rw [← HL.out]; exact Hfit.out) rfl (by have := Hsm.out; simp; omega) (below_alloc w _).size ?_; intro v6 w6 ho6 hb6 _ _; rw [List.nil_append] at ho6))
    obtain ⟨g6, c6, rfl, hg6, hg6', hlc, hcm⟩ := ho6.at' (by omega)
    have B6 := hid ((below_alloc w (.cells #[] 52)).trans hb6)
    obtain ⟨q0, f0⟩ := ho6.get ndV_length hk (j := 0) (by omega) rfl
    obtain ⟨q1, f1⟩ := ho6.get ndV_length hk (j := 1) (by omega) rfl
    obtain ⟨q2, f2⟩ := ho6.get ndV_length hk (j := 2) (by omega) rfl
    obtain ⟨q3, f3⟩ := ho6.get ndV_length hk (j := 3) (by omega) rfl
    have hst := fun (W : World) (L' : List Nd) (hR : RO ndV 4 W w.heap.size 52 (.slice (some ⟨g6, 0, none⟩) L.length c6) L') (hk' : k < L'.length) (j : Nat) (hj : j < 4) (x' : Nd) (v : Value) (hx : ndV x' = (ndV L'[k]).set j v) => hR.set1 ndV_length hk' hj x' v hx
    have O6 := hid ho6
    have Hst := hid hst
    have Gl := hid hg6'
    clear ho6 hb6 hst
    generalize hx : L[k] = x at q0 q1 q2 q3 hok
    have HX := hid hx
    obtain ⟨st, lf, hd, un⟩ := x
    obtain ⟨o1, o2, o3, o4⟩ := hok
    dsimp only at q0 q1 q2 q3 o1 o2 o3 o4
    have hfin : Kept (∀ (W : World) (nd : Nd) (b1 b2 : Bool), hear1 ⟨st, lf, hd, un⟩ now life = (nd, b1, b2) → RO ndV 4 W w.heap.size 52 (.slice (some ⟨g6, 0, none⟩) L.length c6) (L.set k nd) → Below w.heap.size w W →
        RefHearTo w a (L.set k (hear1 ⟨st, lf, hd, un⟩ now life).1, (hear1 ⟨st, lf, hd, un⟩ now life).2) (.returned (.tuple #[.slice (some ⟨g6, 0, none⟩) L.length c6, .bool b1, .bool b2])) W) := ⟨fun W nd b1 b2 he hR hb => by
      have hkk := ok_hear1 ⟨st, lf, hd, un⟩ now life ⟨o1, o2, o3, o4⟩ hn hl
      rw [he] at hkk ⊢
      obtain ⟨a', n', c', ev, hl', hnc, hcs⟩ := hR.cs
      cases ev
      refine ⟨_, _, _, rfl, hl', ⟨hcs, by rw [hl']; exact hnc, fun q hq => ?_, by rw [List.length_set]; exact Hsm.out⟩, hb, .inr fun x hx => by cases hx; exact hg6⟩
      rcases List.mem_or_eq_of_mem_set hq with h1 | rfl
      · exact Hokall.out q h1
      · exact hkk⟩
    have hSelf : Kept (L.set k ⟨st, lf, hd, un⟩ = L) := ⟨by rw [← HX.out]; exact List.set_getElem_self hk⟩
    rw [Nat.add_zero] at q0 f0
    clear hx
    have hg6n : g6 ≠ w6.heap.size := by omega
    have Hg := hid hg6n
    by_cases hgt : lf < life
    · have hgt' : (lf : Int) < (life : Int) := by omega
      have e1 : Kept (hear1 ⟨st, lf, hd, un⟩ now life = (⟨1, life, now, max un (later8 now)⟩, true, decide (st ≠ 0))) := ⟨by
        unfold hear1; dsimp only; rw [if_neg (by omega), if_neg (by omega)]⟩
      have hst1 : ((st : Int) != 0) = decide (st ≠ 0) := by rw [Bool.eq_iff_iff]; simp
      have hmx : (if un < later8 now then (later8 now : Int) else (un : Int)) = ((max un (later8 now) : Nat) : Int) := by split <;> omega
      have S1 := O6.out.set1 ndV_length hk (j := 0) (by omega) ⟨1, lf, hd, un⟩ (.int .u8 1) (by rw [HX.out]; rfl)
      have x1 : k < (L.set k ⟨1, lf, hd, un⟩).length := by rw [List.length_set]; exact hk
      have S2 := S1.set1 ndV_length x1 (j := 1) (by omega) ⟨1, life, hd, un⟩ (.int .u32 (life : Int)) (by rw [List.getElem_set_self]; rfl)
      rw [List.set_set] at S2
      have x2 : k < (L.set k ⟨1, life, hd, un⟩).length := by rw [List.length_set]; exact hk
      have S3 := S2.set1 ndV_length x2 (j := 2) (by omega) ⟨1, life, now, un⟩ (.int .u32 (now : Int)) (by rw [List.getElem_set_self]; rfl)
      rw [List.set_set] at S3
      have x3 : k < (L.set k ⟨1, life, now, un⟩).length := by rw [List.length_set]; exact hk
      have S4 := S3.set1 ndV_length x3 (j := 3) (by omega) ⟨1, life, now, max un (later8 now)⟩ (.int .u32 ((max un (later8 now) : Nat) : Int)) (by rw [List.getElem_set_self]; rfl)
      rw [List.set_set, Nat.add_zero] at S4
      have HS := hid (fun (W : World) (hb : Below _ _ W) => And.intro (S4.below hb) (((((B6.out.setCell hg6 (p := ⟨g6, k * 4, none⟩) (.int .u8 1)).setCell hg6 (p := ⟨g6, k * 4 + 1, none⟩) (.int .u32 (life : Int))).setCell hg6 (p := ⟨g6, k * 4 + 2, none⟩) (.int .u32 (now : Int))).setCell hg6 (p := ⟨g6, k * 4 + 3, none⟩) (.int .u32 ((max un (later8 now) : Nat) : Int))).trans (hb.mono (by simp [World.setCell]; have := B6.out.size; omega))))
      have Hmx := hid hmx
      have Hst1 := hid hst1
      clear hgt S1 S2 S3 S4 x1 x2 x3 hmx hst1
      go_wp2_with fail
      go_region_with (go_at_call 19; refine (reflater_calls _ now hn).mono ?_; rintro e w' ⟨rfl, rfl⟩)
      all_goals
        rw [Hmx.out]
        go_wp2_with fail
        go_quiet (fail)
        go_wp2_with fail
        go_ret3
        rw [Hst1.out]
        rw [HX.out]
        refine hfin.out _ _ _ _ e1.out ?_ ?_
        · exact (HS.out _ (by repeat (first | exact Below.refl _ _ | refine below_drewN ?_ _ | refine Below.drew ?_ | refine Below.alloc ?_ (by simp) _))).1
        · exact (HS.out _ (by repeat (first | exact Below.refl _ _ | refine below_drewN ?_ _ | refine Below.drew ?_ | refine Below.alloc ?_ (by simp) _))).2
    have hgt' : ¬ ((lf : Int) < (life : Int)) := by omega
    by_cases heq : life = lf
    · have hle : ((life : Int) == (lf : Int)) = true := by rw [beq_iff_eq]; omega
      have Heq := hid heq
      clear heq
      by_cases hs0 : st = 0
      · have hs : ((st : Int) != 0) = false := by simp [hs0]
        have e1 : Kept (hear1 ⟨st, lf, hd, un⟩ now life = (⟨st, lf, hd, un⟩, false, false)) := ⟨by
          unfold hear1; dsimp only; rw [if_pos (.inr ⟨Heq.out, hs0⟩)]⟩
        have HS := hid (fun (W : World) (hb : Below w6.heap.size w6 W) => And.intro (O6.out.below hb) (B6.out.trans (hb.mono B6.out.size)))
        have Hs0 := hid hs0
        clear hs0
        go_wp2_with fail
        go_ret3
        rw [HX.out]
        refine hfin.out _ _ _ _ e1.out ?_ ?_
        · rw [hSelf.out]; exact (HS.out _ (by repeat (first | exact Below.refl _ _ | refine below_drewN ?_ _ | refine Below.drew ?_ | refine Below.alloc ?_ (by simp) _))).1
        · exact (HS.out _ (by repeat (first | exact Below.refl _ _ | refine below_drewN ?_ _ | refine Below.drew ?_ | refine Below.alloc ?_ (by simp) _))).2
      · have hs : ((st : Int) != 0) = true := by simp; omega
        have e1 : Kept (hear1 ⟨st, lf, hd, un⟩ now life = (⟨st, lf, now, un⟩, false, false)) := ⟨by
          unfold hear1; dsimp only; rw [if_neg (by have := Heq.out; omega), if_pos Heq.out]⟩
        have S1 := O6.out.set1 ndV_length hk (j := 2) (by omega) ⟨st, lf, now, un⟩ (.int .u32 (now : Int)) (by rw [HX.out]; rfl)
        have HS := hid (fun (W : World) (hb : Below _ _ W) => And.intro (S1.below hb) ((B6.out.setCell hg6 (p := ⟨g6, k * 4 + 2, none⟩) (.int .u32 (now : Int))).trans (hb.mono (by simp [World.setCell]; have := B6.out.size; omega))))
        clear S1 hs0
        go_wp2_with fail
        go_ret3
        rw [HX.out]
        refine hfin.out _ _ _ _ e1.out ?_ ?_
        · exact (HS.out _ (by repeat (first | exact Below.refl _ _ | refine below_drewN ?_ _ | refine Below.drew ?_ | refine Below.alloc ?_ (by simp) _))).1
        · exact (HS.out _ (by repeat (first | exact Below.refl _ _ | refine below_drewN ?_ _ | refine Below.drew ?_ | refine Below.alloc ?_ (by simp) _))).2
    · have hle : ((life : Int) == (lf : Int)) = false := by rw [beq_eq_false_iff_ne]; omega
      have e1 : Kept (hear1 ⟨st, lf, hd, un⟩ now life = (⟨st, lf, hd, un⟩, false, false)) := ⟨by
        unfold hear1; dsimp only; rw [if_pos (.inl (by omega))]⟩
      have HS := hid (fun (W : World) (hb : Below w6.heap.size w6 W) => And.intro (O6.out.below hb) (B6.out.trans (hb.mono B6.out.size)))
      have Hs0 := hid heq
      clear heq
      go_wp2_with fail
      go_ret3
      rw [HX.out]
      refine hfin.out _ _ _ _ e1.out ?_ ?_
      · rw [hSelf.out]; exact (HS.out _ (by repeat (first | exact Below.refl _ _ | refine below_drewN ?_ _ | refine Below.drew ?_ | refine Below.alloc ?_ (by simp) _))).1
      · exact (HS.out _ (by repeat (first | exact Below.refl _ _ | refine below_drewN ?_ _ | refine Below.drew ?_ | refine Below.alloc ?_ (by simp) _))).2
end Go.Proofs.Ytolgfemjpkgloaa
