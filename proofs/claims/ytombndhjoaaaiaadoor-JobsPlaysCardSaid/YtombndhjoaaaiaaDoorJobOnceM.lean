/- What one request or one end makes of a table of jobs, in plain mathematics; asked: that the table is whole. -/
import Derived.Test.YtombndhjoaaaiaaDoorJobH
namespace Go.Proofs.YtombndhjoaaaiaaDoor
open Go.Quad _root_.Quad _root_.Quad.Ink

structure StepT (t t' : TbD) : Prop where
  sp : t'.spent = t.spent ∨ t'.spent = t.spent + 1
  act : ∀ j ∈ t'.active, (∃ x ∈ t.active, x.id = j.id) ∨ (j.id = t.spent + 1 ∧ t'.spent = t.spent + 1)
  over : ∀ o ∈ t'.over, (∃ x ∈ t.over, x.id = o.id) ∨ ((∃ x ∈ t.active, x.id = o.id) ∧ ∀ y ∈ t'.active, y.id ≠ o.id)
theorem StepT.refl (t : TbD) : StepT t t := ⟨.inl rfl, fun j hj => .inl ⟨j, hj, rfl⟩, fun o ho => .inl ⟨o, ho, rfl⟩⟩
theorem StepT.end' {t : TbD} {j : JobD} (hj : ∃ x ∈ t.active, x.id = j.id) (st : Nat) : StepT t (endT t j st) := by
  refine ⟨.inl rfl, fun x hx => .inl ⟨x, (List.mem_filter.1 hx).1, rfl⟩, fun o ho => ?_⟩
  rcases overT_mem ho with h | h
  · exact .inl ⟨o, h, rfl⟩
  · subst h
    exact .inr ⟨hj, fun y hy => by have := (List.mem_filter.1 hy).2; simpa using this⟩
theorem StepT.act' {t : TbD} (ht : t.Ok) (q : ReqD) : StepT t (actT t q).1 := by
  unfold actT
  split
  · unfold cancelT
    split
    · exact StepT.refl t
    · rename_i h
      have hz := getT_zero ht (id := q.job) (by omega)
      exact StepT.end' ⟨_, hz.1, rfl⟩ 5
  · unfold submitT
    split
    · exact StepT.refl t
    · split
      · exact StepT.refl t
      · split
        · exact StepT.refl t
        · refine ⟨.inr rfl, fun j hj => ?_, fun o ho => .inl ⟨o, ho, rfl⟩⟩
          rcases List.mem_append.1 hj with h | h
          · exact .inl ⟨j, h, rfl⟩
          · rw [List.mem_singleton] at h
            subst h
            exact .inr ⟨rfl, rfl⟩
theorem StepT.do' {t : TbD} (ht : t.Ok) (q : ReqD) : StepT t (doT t q).1 := by
  unfold doT
  split
  · exact StepT.refl t
  · split
    · exact StepT.refl t
    · split
      · exact StepT.refl t
      · split
        · exact StepT.refl t
        · have h := StepT.act' ht q
          split
          · exact ⟨h.sp, h.act, h.over⟩
          · exact h
theorem StepT.finish {t : TbD} (ht : t.Ok) (id : Nat) : StepT t (finishT t id).1 := by
  unfold finishT
  split
  · exact StepT.refl t
  · rename_i h
    have hz := getT_zero ht (id := id) (by omega)
    exact StepT.end' (j := { (getT t id).1 with credit := (getT t id).1.w }) ⟨_, hz.1, rfl⟩ 4
/-- a new number is told of -/
theorem do_spent {t : TbD} (ht : t.Ok) (q : ReqD) : (doT t q).1.spent = t.spent ∨ ((doT t q).1.spent = t.spent + 1 ∧ (doT t q).2.2 = true) := by
  have h := StepT.act' ht q
  unfold doT
  split
  · exact .inl rfl
  · split
    · exact .inl rfl
    · split
      · exact .inl rfl
      · split
        · exact .inl rfl
        · split
          · rcases h.sp with h | h
            · exact .inl h
            · exact .inr ⟨h, rfl⟩
          · rename_i hz
            left
            show (actT t q).1.spent = t.spent
            unfold actT at hz ⊢
            split
            · unfold cancelT; split <;> rfl
            · rename_i hk
              rw [if_neg hk] at hz
              unfold submitT at hz ⊢
              split
              · rfl
              · split
                · rfl
                · split
                  · rfl
                  · rename_i h1 h2 h3
                    rw [if_neg h1, if_neg h2, if_neg h3] at hz
                    exact absurd rfl hz
/-- asked again, the same is told -/
theorem do_again {t : TbD} (ht : t.Ok) (q : ReqD) (hd : (doT t q).2.2 = true) : doT (doT t q).1 q = ((doT t q).1, (doT t q).2.1, false) := by
  unfold doT at hd
  split at hd
  · cases hd
  · rename_i h1
    split at hd
    · cases hd
    · rename_i h2
      split at hd
      · cases hd
      · rename_i h3
        split at hd
        · cases hd
        · rename_i h4
          split at hd
          · rename_i h5
            have e : doT t q = ({ (actT t q).1 with last := t.last.set q.client { repQ q with job := (actT t q).2.1, e := 0 } }, { repQ q with job := (actT t q).2.1, e := 0 }, true) := by
              unfold doT
              rw [if_neg h1, if_neg h2, if_neg h3, if_neg h4, if_pos h5]
            rw [e]
            have hc : q.client < t.last.length := by
              rw [ht.last]
              have hf : (reqL q).2 = 0 := by omega
              exact reqL_client hf
            have hl : (t.last.set q.client { repQ q with job := (actT t q).2.1, e := 0 }).getD q.client repZ = { repQ q with job := (actT t q).2.1, e := 0 } := by
              rw [List.getD_eq_getElem?_getD, List.getElem?_set_self hc]
              rfl
            have hs : q.seq ≠ 0 := by
              intro h0
              exact h3 (by unfold orderT; rw [if_pos h0]; decide)
            have ho : orderT { (actT t q).1 with last := t.last.set q.client { repQ q with job := (actT t q).2.1, e := 0 } } q = 0 := by
              unfold orderT
              rw [if_neg hs]
              show (if q.seq < ((t.last.set q.client { repQ q with job := (actT t q).2.1, e := 0 }).getD q.client repZ).seq then (12 : Int) else if 1 < q.seq - ((t.last.set q.client { repQ q with job := (actT t q).2.1, e := 0 }).getD q.client repZ).seq then 11 else 0) = 0
              rw [hl]
              show (if q.seq < q.seq then (12 : Int) else if 1 < q.seq - q.seq then 11 else 0) = 0
              rw [if_neg (Nat.lt_irrefl _), if_neg (by omega)]
            unfold doT
            rw [if_neg h1, if_neg h2, if_neg (by rw [ho]; simp)]
            show (if q.seq = ((t.last.set q.client { repQ q with job := (actT t q).2.1, e := 0 }).getD q.client repZ).seq then _ else _) = _
            rw [hl, if_pos (by rfl)]
          · cases hd
structure OnceInv (t : TbD) (S : Nat → Bool) : Prop where
  set : ∀ id, S id = true → id ≤ t.spent ∧ ∀ y ∈ t.active, y.id ≠ id
  dis : ∀ o ∈ t.over, ∀ y ∈ t.active, y.id ≠ o.id
theorem OnceInv.step {t t' : TbD} {S : Nat → Bool} (h : OnceInv t S) (ht : t.Ok) (hs : StepT t t') : OnceInv t' S := by
  refine ⟨fun id hid => ?_, fun o ho y hy => ?_⟩
  · obtain ⟨h1, h2⟩ := h.set id hid
    refine ⟨by rcases hs.sp with e | e <;> omega, fun y hy => ?_⟩
    rcases hs.act y hy with ⟨x, hx, e⟩ | ⟨e, _⟩
    · rw [← e]; exact h2 x hx
    · omega
  · rcases hs.over o ho with ⟨x, hx, e⟩ | ⟨_, h2⟩
    · rcases hs.act y hy with ⟨z, hz, e'⟩ | ⟨e', _⟩
      · rw [← e, ← e']; exact h.dis x hx z hz
      · have := (ht.oids x hx).2
        omega
    · exact h2 y hy
theorem OnceInv.add {t : TbD} {S : Nat → Bool} (h : OnceInv t S) (ht : t.Ok) {o : JobD} (ho : o ∈ t.over) : OnceInv t fun x => x == o.id || S x := by
  refine ⟨fun id hid => ?_, h.dis⟩
  rcases Bool.or_eq_true_iff.1 hid with e | e
  · obtain rfl : id = o.id := by simpa using e
    exact ⟨(ht.oids o ho).2, h.dis o ho⟩
  · exact h.set id e
end Go.Proofs.YtombndhjoaaaiaaDoor
