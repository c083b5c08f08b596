/- The walks of layer 16: two lists of the same jobs are alike; what is refused changes nothing, in plain mathematics; asked: that the table is whole. -/
import Derived.Test.YtombndhjoaaaiaaDoorJobO
import Derived.Test.YtombndhjoaaaiaaDoorJobOnceM
namespace Go.Proofs.YtombndhjoaaaiaaDoor
open Go.RowKit Go.Quad _root_.Quad _root_.Quad.Ink

def SjRel (w : World) (n : Nat) (iv : Value) (wr : World) : Prop := ∃ k : Nat, iv = .int .i64 (k : Int) ∧ k ≤ n ∧ Below w.heap.size w wr
set_option maxRecDepth 100000 in
set_option maxHeartbeats 8000000 in
theorem samej_calls (w : World) (a a' : Option Addr) (cap cap' : Nat) (l : List JobD) (h : CS w a cap 6 (l.flatMap jobV)) (h' : CS w a' cap' 6 (l.flatMap jobV)) (hn : l.length ≤ 64) :
    Calls Tryd.prog 22 #[.slice a l.length cap, .slice a' l.length cap'] w fun e w' => e = .returned (.bool true) ∧ Below w.heap.size w w' := by
  have H := hid h
  have H' := hid h'
  have n64 : (l.length : Int) ≤ 64 := by omega
  clear h h'
  go_enter Tryd.func22, Tryd.ntmps22
  go_wp2_with fail
  go_loopw [13] (fun iv wr => SjRel w l.length iv wr) (fun iv _ => l.length - (intOf iv).toNat)
  case atStart => exact ⟨0, rfl, Nat.zero_le _, Below.refl _ _⟩
  case round =>
    obtain ⟨k, rfl, hk, hb⟩ := hrel
    have B := hid hb
    clear hb
    by_cases hkl : k < l.length
    · have hkl' : (k : Int) < (l.length : Int) := by omega
      obtain ⟨b1, o1, rfl, hc1⟩ := cs_row jobV_length H.out hkl (by decide)
      obtain ⟨b2, o2, rfl, hc2⟩ := cs_row jobV_length H'.out hkl (by decide)
      generalize l[k] = j at hc1 hc2
      have a0 := cell_later B.out (hc1 0 _ rfl)
      have a1 := cell_later B.out (hc1 1 _ rfl)
      have a2 := cell_later B.out (hc1 2 _ rfl)
      have a3 := cell_later B.out (hc1 3 _ rfl)
      have a4 := cell_later B.out (hc1 4 _ rfl)
      have a5 := cell_later B.out (hc1 5 _ rfl)
      have d0 := cell_later B.out (hc2 0 _ rfl)
      have d1 := cell_later B.out (hc2 1 _ rfl)
      have d2 := cell_later B.out (hc2 2 _ rfl)
      have d3 := cell_later B.out (hc2 3 _ rfl)
      have d4 := cell_later B.out (hc2 4 _ rfl)
      have d5 := cell_later B.out (hc2 5 _ rfl)
      rw [Nat.add_zero] at a0 d0
      have HKL := hid hkl
      clear hc1 hc2 hkl
      go_wp2_with fail
      go_region
      all_goals go_wp2_with fail
      all_goals
        have hkl := HKL.out
        have R : ∀ q, SjRel w l.length (.int .i64 ((k : Int) + 1)) (wr.drewN q) := fun q => ⟨k + 1, by simp, hkl, B.out.trans ((below_drewN (Below.refl _ _) q).mono B.out.size)⟩
        refine ⟨?_, ?_⟩
        · first | exact R _ | ((repeat apply Exists.intro); refine ⟨R _, ?_⟩; and_intros <;> rfl) | ((repeat apply Exists.intro); refine ⟨R 1, ?_⟩; and_intros <;> rfl)
        · simp [intOf]
          omega
    · have hkl' : ¬ ((k : Int) < (l.length : Int)) := by omega
      clear hkl
      go_wp2_with fail
      go_ret
      exact ⟨rfl, B.out⟩

def LastInv (t : TbD) : Prop := ∀ c r, t.last[c]? = some r → r = repZ ∨ (r.client = c ∧ r.e = 0)
theorem act_last' (t : TbD) (q : ReqD) : (actT t q).1.last = t.last := by
  unfold actT
  split
  · unfold cancelT; split <;> rfl
  · unfold submitT
    split
    · rfl
    · split
      · rfl
      · split <;> rfl
theorem LastInv.step {t : TbD} (h : LastInv t) (q : ReqD) : LastInv (doT t q).1 := by
  unfold doT
  split
  · exact h
  · split
    · exact h
    · split
      · exact h
      · split
        · exact h
        · split
          · intro c r hr
            have hr : (t.last.set q.client { repQ q with job := (actT t q).2.1, e := 0 })[c]? = some r := hr
            by_cases e : q.client = c
            · subst e
              rw [List.getElem?_set] at hr
              simp only [if_true] at hr
              split at hr
              · simp only [Option.some.injEq] at hr
                subst hr
                exact .inr ⟨rfl, rfl⟩
              · cases hr
            · rw [List.getElem?_set_ne e] at hr
              exact h c r hr
          · intro c r hr
            have hr : (actT t q).1.last[c]? = some r := hr
            rw [act_last'] at hr
            exact h c r hr
theorem act_refused (t : TbD) (q : ReqD) (he : (actT t q).2.2 ≠ 0) : (actT t q).1 = t ∧ (actT t q).2.1 = 0 := by
  unfold actT at he ⊢
  split
  · rename_i hk
    rw [if_pos hk] at he
    unfold cancelT at he ⊢
    split
    · exact ⟨rfl, rfl⟩
    · rename_i h
      rw [if_neg h] at he
      exact absurd rfl he
  · rename_i hk
    rw [if_neg hk] at he
    unfold submitT at he ⊢
    split
    · exact ⟨rfl, rfl⟩
    · rename_i h1
      rw [if_neg h1] at he
      split
      · exact ⟨rfl, rfl⟩
      · rename_i h2
        rw [if_neg h2] at he
        split
        · exact ⟨rfl, rfl⟩
        · rename_i h3
          rw [if_neg h3] at he
          exact absurd rfl he
theorem refused {t : TbD} (hl : LastInv t) (q : ReqD) : ((doT t q).2.1.e = 0 → (doT t q).2.1.client = q.client ∧ (doT t q).2.1.seq = q.seq) ∧ ((doT t q).2.1.e ≠ 0 → (doT t q).1 = t ∧ (doT t q).2.2 = false ∧ (doT t q).2.1.job = 0) := by
  unfold doT
  split
  · rename_i h
    exact ⟨fun e => absurd e h, fun _ => ⟨rfl, rfl, rfl⟩⟩
  · split
    · show ((queryT t (repQ q) q.job).e = 0 → _) ∧ ((queryT t (repQ q) q.job).e ≠ 0 → t = t ∧ false = false ∧ (queryT t (repQ q) q.job).job = 0)
      unfold queryT
      cases jobT t q.job with
      | none => exact ⟨fun e => absurd e (by show ¬ ((6 : Int) = 0); decide), fun _ => ⟨rfl, rfl, rfl⟩⟩
      | some j => exact ⟨fun _ => ⟨rfl, rfl⟩, fun e => absurd rfl e⟩
    · split
      · rename_i h
        exact ⟨fun e => absurd e h, fun _ => ⟨rfl, rfl, rfl⟩⟩
      · rename_i ho
        split
        · rename_i hs
          have hs0 : q.seq ≠ 0 := by
            intro h0
            exact ho (by unfold orderT; rw [if_pos h0]; decide)
          have hr : t.last.getD q.client repZ ≠ repZ := by
            intro e
            rw [e] at hs
            exact hs0 hs
          have hi : t.last[q.client]? = some (t.last.getD q.client repZ) := by
            rw [List.getD_eq_getElem?_getD] at hr ⊢
            cases h : t.last[q.client]? with
            | none => rw [h] at hr; exact absurd rfl hr
            | some r => rfl
          rcases hl _ _ hi with e | ⟨e1, e2⟩
          · exact absurd e hr
          · exact ⟨fun _ => ⟨e1, hs.symm⟩, fun e => absurd e2 e⟩
        · split
          · exact ⟨fun _ => ⟨rfl, rfl⟩, fun e => absurd rfl e⟩
          · rename_i h
            obtain ⟨h1, h2⟩ := act_refused t q h
            exact ⟨fun e => absurd e h, fun _ => ⟨h1, rfl, h2⟩⟩
end Go.Proofs.YtombndhjoaaaiaaDoor
