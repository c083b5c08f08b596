/- What one request leaves of the others' jobs and of what another client is told, in plain mathematics; asked: that the table is whole. -/
import Derived.Test.YtombndhjoaaaiaaDoorJobOnceM
namespace Go.Proofs.YtombndhjoaaaiaaDoor
open Go.Quad _root_.Quad _root_.Quad.Ink

theorem find_of_mem {L : List JobD} (hp : L.Pairwise (fun a b => a.id < b.id)) {j : JobD} (hj : j ∈ L) : L.find? (fun x => x.id == j.id) = some j := by
  induction L with
  | nil => cases hj
  | cons x L ih =>
    obtain ⟨h1, h2⟩ := List.pairwise_cons.1 hp
    rcases List.mem_cons.1 hj with rfl | h
    · simp
    · have : (x.id == j.id) = false := by have := h1 j h; rw [beq_eq_false_iff_ne]; omega
      rw [List.find?_cons, this]
      exact ih h2 h
theorem jobT_active {t : TbD} (ht : t.Ok) {j : JobD} (hj : j ∈ t.active) : jobT t j.id = some j := by
  unfold jobT
  rw [find_of_mem ht.rise hj]
  rfl
theorem jobT_last (t : TbD) (l : List RepD) (id : Nat) : jobT { t with last := l } id = jobT t id := rfl
theorem over_last {l : List JobD} {j : JobD} (h : ∀ o ∈ l, o.id ≠ j.id) : (overT l j).find? (fun x => x.id == j.id) = some j := by
  have key : ∀ m : List JobD, (∀ o ∈ m, o.id ≠ j.id) → (m ++ [j]).find? (fun x => x.id == j.id) = some j := by
    intro m hm
    rw [List.find?_append, List.find?_eq_none.2 (fun x hx => by simpa using hm x hx)]
    simp
  unfold overT
  split
  · rename_i hl
    rw [List.drop_append_of_le_length (by omega)]
    exact key _ fun o ho => h o (List.mem_of_mem_drop ho)
  · exact key _ h
theorem apart_act {t : TbD} (ht : t.Ok) (hd : ∀ o ∈ t.over, ∀ y ∈ t.active, y.id ≠ o.id) {j : JobD} (hj : j ∈ t.active) (q : ReqD) :
    jobT (actT t q).1 j.id = some j ∨ (q.kind = 2 ∧ q.job = j.id ∧ jobT (actT t q).1 j.id = some { j with state := 5 }) := by
  unfold actT
  split
  · rename_i hk
    unfold cancelT
    split
    · exact .inl (jobT_active ht hj)
    · rename_i he
      obtain ⟨h1, h2, h3⟩ := getT_zero ht (id := q.job) (by omega)
      by_cases e : j.id = q.job
      · have hf := find_of_mem ht.rise hj
        rw [e] at hf
        rw [hf] at h3
        have hj0 : (getT t q.job).1 = j := (Option.some.inj h3).symm
        right
        refine ⟨hk, e.symm, ?_⟩
        show jobT (endT t (getT t q.job).1 5) j.id = _
        rw [hj0]
        unfold jobT endT
        show ((t.active.filter fun x => x.id != j.id).find? fun x => x.id == j.id).orElse _ = _
        rw [List.find?_eq_none.2 (fun x hx => by have := (List.mem_filter.1 hx).2; simpa using this)]
        exact over_last (j := { j with state := 5 }) fun o ho e => hd o ho j hj e.symm
      · left
        show jobT (endT t (getT t q.job).1 5) j.id = _
        unfold jobT endT
        show ((t.active.filter fun x => x.id != (getT t q.job).1.id).find? fun x => x.id == j.id).orElse _ = _
        rw [h2, find_of_mem (ht.rise.filter _) (List.mem_filter.2 ⟨hj, by simpa using e⟩)]
        rfl
  · unfold submitT
    split
    · exact .inl (jobT_active ht hj)
    · split
      · exact .inl (jobT_active ht hj)
      · split
        · exact .inl (jobT_active ht hj)
        · left
          unfold jobT
          show ((t.active ++ [_]).find? fun (x : JobD) => x.id == j.id).orElse _ = _
          rw [List.find?_append, find_of_mem ht.rise hj]
          rfl
theorem apart_job {t : TbD} (ht : t.Ok) (hd : ∀ o ∈ t.over, ∀ y ∈ t.active, y.id ≠ o.id) {j : JobD} (hj : j ∈ t.active) (q : ReqD) :
    jobT (doT t q).1 j.id = some j ∨ (q.kind = 2 ∧ q.job = j.id ∧ jobT (doT t q).1 j.id = some { j with state := 5 }) := by
  unfold doT
  split
  · exact .inl (jobT_active ht hj)
  · split
    · exact .inl (jobT_active ht hj)
    · split
      · exact .inl (jobT_active ht hj)
      · split
        · exact .inl (jobT_active ht hj)
        · split
          · exact apart_act ht hd hj q
          · exact apart_act ht hd hj q
theorem act_last (t : TbD) (q : ReqD) : (actT t q).1.last = t.last := by
  unfold actT
  split
  · unfold cancelT; split <;> rfl
  · unfold submitT
    split
    · rfl
    · split
      · rfl
      · split <;> rfl
theorem do_last (t : TbD) (q : ReqD) {c : Nat} (hc : c ≠ q.client) : (doT t q).1.last.getD c repZ = t.last.getD c repZ := by
  unfold doT
  split
  · rfl
  · split
    · rfl
    · split
      · rfl
      · split
        · rfl
        · split
          · show (t.last.set q.client _).getD c repZ = _
            rw [List.getD_eq_getElem?_getD, List.getD_eq_getElem?_getD, List.getElem?_set_ne (by omega)]
          · show (actT t q).1.last.getD c repZ = _
            rw [act_last]
def cq (c s : Nat) : ReqD := ⟨c, s, 2, 0, 0, 0, 77⟩
def cqRep (c s : Nat) (r : RepD) : RepD :=
  if (reqL (cq c s)).2 ≠ 0 then { repQ (cq c s) with e := (reqL (cq c s)).2 }
  else if (if s = 0 then (1 : Int) else if s < r.seq then 12 else if 1 < s - r.seq then 11 else 0) ≠ 0 then { repQ (cq c s) with e := (if s = 0 then (1 : Int) else if s < r.seq then 12 else if 1 < s - r.seq then 11 else 0) }
  else if s = r.seq then r
  else { repQ (cq c s) with job := 0, e := 6 }
theorem rep_none {t : TbD} (ht : t.Ok) (hs : t.spent < 77) (c s : Nat) : (doT t (cq c s)).2.1 = cqRep c s (t.last.getD c repZ) := by
  have hj : jobT t 77 = none := by
    cases h : jobT t 77 with
    | none => rfl
    | some j =>
      obtain ⟨h1, h2⟩ := jobT_some h
      rcases h1 with h1 | h1
      · have := (ht.ids j h1).2; omega
      · have := (ht.oids j h1).2; omega
  have hg : getT t 77 = (jobZ, 6) := by unfold getT; rw [hj]
  have ha : actT t (cq c s) = (t, 0, 6) := by
    unfold actT
    rw [if_pos (by rfl)]
    unfold cancelT
    show (if (getT t 77).2 ≠ 0 then (t, 0, (getT t 77).2) else _) = _
    rw [hg]
    rfl
  have ho : orderT t (cq c s) = (if s = 0 then (1 : Int) else if s < (t.last.getD c repZ).seq then 12 else if 1 < s - (t.last.getD c repZ).seq then 11 else 0) := rfl
  obtain ⟨o, hoo⟩ : ∃ o, orderT t (cq c s) = o := ⟨_, rfl⟩
  unfold doT cqRep
  rw [ha, ← ho, hoo]
  by_cases h0 : (reqL (cq c s)).2 ≠ 0
  · rw [if_pos h0, if_pos h0]
  · rw [if_neg h0, if_neg h0, if_neg (by show ¬ (2 = 3); omega)]
    by_cases h1 : o ≠ 0
    · rw [if_pos h1, if_pos h1]
    · rw [if_neg h1, if_neg h1]
      by_cases h2 : s = (t.last.getD c repZ).seq
      · rw [if_pos h2]
        show ((if s = (t.last.getD c repZ).seq then _ else _ : TbD × RepD × Bool)).2.1 = _
        rw [if_pos h2]
        rfl
      · rw [if_neg h2]
        show ((if s = (t.last.getD c repZ).seq then _ else _ : TbD × RepD × Bool)).2.1 = _
        rw [if_neg h2, if_neg (by show ¬ ((6 : Int) = 0); decide)]
theorem apart_reply {t : TbD} (ht : t.Ok) (q : ReqD) (hu : (doT t q).1.Ok) (hs : t.spent < 70) {c : Nat} (hc : c ≠ q.client) (s : Nat) : (doT (doT t q).1 (cq c s)).2.1 = (doT t (cq c s)).2.1 := by
  have h1 := (StepT.do' ht q).sp
  rw [rep_none hu (by omega), rep_none ht (by omega), do_last t q hc]
theorem cq_ok {c s : Nat} (hc : c < 256) (hs : s < 4294967296) : (cq c s).Ok := ⟨hc, hs, by show 2 < 256; omega, by show 0 < 256; omega, by show (-9223372036854775808 : Int) ≤ 0 ∧ (0 : Int) ≤ 9223372036854775807; omega, by show (-9223372036854775808 : Int) ≤ 0 ∧ (0 : Int) ≤ 9223372036854775807; omega, by show 77 < 4294967296; omega⟩
end Go.Proofs.YtombndhjoaaaiaaDoor
