/- Plain: what clients asked for: a table of jobs, and what each request does to it. -/
import Derived.Test.YtombndhjoaaaiaaDoorNoteMath
namespace Go.Proofs.YtombndhjoaaaiaaDoor
open Go.RowKit Go.Quad _root_.Quad _root_.Quad.Ink

structure JobD where
  id : Nat
  tier : Nat
  k : Int
  w : Int
  state : Nat
  credit : Int
def jobZ : JobD := ⟨0, 0, 0, 0, 0, 0⟩
structure TbD where
  nodes : Int
  spent : Nat
  active : List JobD
  over : List JobD
  last : List RepD
def newT (n : Int) : TbD := ⟨n, 0, [], [], List.replicate 8 repZ⟩

def jobT (t : TbD) (id : Nat) : Option JobD := (t.active.find? (fun j => j.id == id)).orElse fun _ => t.over.find? (fun j => j.id == id)
def getT (t : TbD) (id : Nat) : JobD × Int :=
  match jobT t id with
  | none => (jobZ, 6)
  | some j => if 4 ≤ j.state then (j, 10) else (j, 0)
def overT (l : List JobD) (j : JobD) : List JobD := if 64 < l.length + 1 then (l ++ [j]).drop 1 else l ++ [j]
def endT (t : TbD) (j : JobD) (st : Nat) : TbD := { t with active := t.active.filter (fun x => x.id != j.id), over := overT t.over { j with state := st } }
def submitT (t : TbD) (q : ReqD) : TbD × Nat × Int :=
  if 3 < q.tier ∨ q.k < 1 ∨ q.w < 1 ∨ 10000 < q.w then (t, 0, 1)
  else if t.nodes < q.k then (t, 0, 9)
  else if 64 ≤ t.active.length ∨ t.spent = 4294967295 then (t, 0, 8)
  else ({ t with spent := t.spent + 1, active := t.active ++ [⟨t.spent + 1, q.tier, q.k, q.w, 0, 0⟩] }, t.spent + 1, 0)
def cancelT (t : TbD) (id : Nat) : TbD × Nat × Int :=
  if (getT t id).2 ≠ 0 then (t, 0, (getT t id).2) else (endT t (getT t id).1 5, id, 0)
def queryT (t : TbD) (r : RepD) (id : Nat) : RepD :=
  match jobT t id with
  | none => { r with e := 6 }
  | some j => { r with job := id, state := j.state, credit := j.credit }
def orderT (t : TbD) (q : ReqD) : Int :=
  if q.seq = 0 then 1 else if q.seq < (t.last.getD q.client repZ).seq then 12 else if 1 < q.seq - (t.last.getD q.client repZ).seq then 11 else 0
def repQ (q : ReqD) : RepD := ⟨q.client, q.seq, 0, 0, 0, 0⟩
def actT (t : TbD) (q : ReqD) : TbD × Nat × Int := if q.kind = 2 then cancelT t q.job else submitT t q
/-- a request -/
def doT (t : TbD) (q : ReqD) : TbD × RepD × Bool :=
  if (reqL q).2 ≠ 0 then (t, { repQ q with e := (reqL q).2 }, false)
  else if q.kind = 3 then (t, queryT t (repQ q) q.job, false)
  else if orderT t q ≠ 0 then (t, { repQ q with e := orderT t q }, false)
  else if q.seq = (t.last.getD q.client repZ).seq then (t, t.last.getD q.client repZ, false)
  else if (actT t q).2.2 = 0 then ({ (actT t q).1 with last := t.last.set q.client { repQ q with job := (actT t q).2.1, e := 0 } }, { repQ q with job := (actT t q).2.1, e := 0 }, true)
  else ((actT t q).1, { repQ q with job := (actT t q).2.1, e := (actT t q).2.2 }, false)
def finishT (t : TbD) (id : Nat) : TbD × Int :=
  if (getT t id).2 ≠ 0 then (t, (getT t id).2) else (endT t { (getT t id).1 with credit := (getT t id).1.w } 4, 0)
def setT (t : TbD) (j : JobD) : TbD := { t with active := t.active.map (fun x => if x.id = j.id then j else x) }
def creditT (t : TbD) (id : Nat) (n : Int) : TbD × Int :=
  if (getT t id).2 ≠ 0 then (t, (getT t id).2)
  else if n < 0 ∨ (getT t id).1.w < n then (t, 1)
  else if n < (getT t id).1.credit then (t, 12)
  else (setT t { (getT t id).1 with credit := n }, 0)
def stateT (t : TbD) (id : Nat) (st : Nat) : TbD × Int :=
  if 3 < st then (t, 1) else if (getT t id).2 ≠ 0 then (t, (getT t id).2) else (setT t { (getT t id).1 with state := st }, 0)

/-- what a table is always -/
structure TbD.Ok (t : TbD) : Prop where
  nodes : 1 ≤ t.nodes ∧ t.nodes ≤ 16
  spent : t.spent < 4294967296
  few : t.active.length ≤ 64 ∧ t.over.length ≤ 64
  ids : ∀ j ∈ t.active, 1 ≤ j.id ∧ j.id ≤ t.spent
  oids : ∀ j ∈ t.over, 1 ≤ j.id ∧ j.id ≤ t.spent
  rise : t.active.Pairwise (fun a b => a.id < b.id)
  st : ∀ j ∈ t.active, j.state < 4
  ost : ∀ j ∈ t.over, j.state = 4 ∨ j.state = 5
  rng : ∀ j, j ∈ t.active ∨ j ∈ t.over → j.tier < 256 ∧ 1 ≤ j.k ∧ j.k ≤ 16 ∧ 1 ≤ j.w ∧ j.w ≤ 10000 ∧ 0 ≤ j.credit ∧ j.credit ≤ j.w
  last : t.last.length = 8
  lok : ∀ r ∈ t.last, r.Ok

theorem newT_ok {n : Int} (h : 1 ≤ n ∧ n ≤ 16) : (newT n).Ok where
  nodes := h
  spent := (by decide : (0 : Nat) < 4294967296)
  few := ⟨Nat.zero_le _, Nat.zero_le _⟩
  ids := by intro j hj; simp [newT] at hj
  oids := by intro j hj; simp [newT] at hj
  rise := List.Pairwise.nil
  st := by intro j hj; simp [newT] at hj
  ost := by intro j hj; simp [newT] at hj
  rng := by intro j hj; simp [newT] at hj
  last := rfl
  lok := by
    intro r hr
    rw [List.eq_of_mem_replicate hr]
    constructor <;> decide
theorem find_id {l : List JobD} {id : Nat} {j : JobD} (h : l.find? (fun j => j.id == id) = some j) : j ∈ l ∧ j.id = id :=
  ⟨List.mem_of_find?_eq_some h, by simpa using List.find?_some h⟩
theorem jobT_some {t : TbD} {id : Nat} {j : JobD} (h : jobT t id = some j) : (j ∈ t.active ∨ j ∈ t.over) ∧ j.id = id := by
  unfold jobT at h
  cases e : t.active.find? (fun j => j.id == id) with
  | some x =>
    rw [e] at h
    simp only [Option.orElse_some, Option.some.injEq] at h
    subst h
    exact ⟨.inl (find_id e).1, (find_id e).2⟩
  | none =>
    rw [e] at h
    simp only [Option.orElse_none] at h
    exact ⟨.inr (find_id h).1, (find_id h).2⟩
/-- a job that one may act on is active -/
theorem getT_zero {t : TbD} (ht : t.Ok) {id : Nat} (h : (getT t id).2 = 0) : (getT t id).1 ∈ t.active ∧ (getT t id).1.id = id ∧ t.active.find? (fun j => j.id == id) = some (getT t id).1 := by
  unfold getT at h ⊢
  cases e : jobT t id with
  | none => rw [e] at h; exact absurd h (by show ¬ ((6 : Int) = 0); decide)
  | some j =>
    rw [e] at h
    dsimp only at h ⊢
    by_cases hs : 4 ≤ j.state
    · rw [if_pos hs] at h; exact absurd h (by show ¬ ((10 : Int) = 0); decide)
    · rw [if_neg hs]
      have hj := jobT_some e
      rcases hj.1 with hm | hm
      · refine ⟨hm, hj.2, ?_⟩
        unfold jobT at e
        cases e2 : t.active.find? (fun j => j.id == id) with
        | some x => rw [e2] at e; simpa using e
        | none =>
          have := List.find?_eq_none.1 e2 j hm
          simp [hj.2] at this
      · have := ht.ost j hm; omega
theorem overT_length (l : List JobD) (j : JobD) (h : l.length ≤ 64) : (overT l j).length ≤ 64 := by
  unfold overT
  split
  · rw [List.length_drop, List.length_append]; simp; omega
  · rw [List.length_append]; simp; omega
theorem overT_mem {l : List JobD} {j x : JobD} (h : x ∈ overT l j) : x ∈ l ∨ x = j := by
  unfold overT at h
  split at h
  · have := List.mem_of_mem_drop h
    simpa using this
  · simpa using h
theorem endT_ok {t : TbD} (ht : t.Ok) {j : JobD} {st : Nat} (hj : 1 ≤ j.id ∧ j.id ≤ t.spent) (hr : j.tier < 256 ∧ 1 ≤ j.k ∧ j.k ≤ 16 ∧ 1 ≤ j.w ∧ j.w ≤ 10000 ∧ 0 ≤ j.credit ∧ j.credit ≤ j.w) (hs : st = 4 ∨ st = 5) : (endT t j st).Ok where
  nodes := ht.nodes
  spent := ht.spent
  few := ⟨Nat.le_trans (List.length_filter_le _ _) ht.few.1, overT_length _ _ ht.few.2⟩
  ids := fun x hx => ht.ids x (List.mem_filter.1 hx).1
  oids := fun x hx => by
    rcases overT_mem hx with h | rfl
    · exact ht.oids x h
    · exact hj
  rise := ht.rise.filter _
  st := fun x hx => ht.st x (List.mem_filter.1 hx).1
  ost := fun x hx => by
    rcases overT_mem hx with h | rfl
    · exact ht.ost x h
    · exact hs
  rng := fun x hx => by
    rcases hx with hx | hx
    · exact ht.rng x (.inl (List.mem_filter.1 hx).1)
    · rcases overT_mem hx with h | rfl
      · exact ht.rng x (.inr h)
      · exact hr
  last := ht.last
  lok := ht.lok
theorem setT_ok {t : TbD} (ht : t.Ok) {j : JobD} (hr : j.tier < 256 ∧ 1 ≤ j.k ∧ j.k ≤ 16 ∧ 1 ≤ j.w ∧ j.w ≤ 10000 ∧ 0 ≤ j.credit ∧ j.credit ≤ j.w) (hs : j.state < 4) : (setT t j).Ok where
  nodes := ht.nodes
  spent := ht.spent
  few := ⟨by show (List.map _ _).length ≤ 64; rw [List.length_map]; exact ht.few.1, ht.few.2⟩
  ids := fun x hx => by
    obtain ⟨y, hy, rfl⟩ := List.mem_map.1 hx
    have := ht.ids y hy
    split
    · rename_i e; rw [← e]; exact this
    · exact this
  oids := ht.oids
  rise := by
    show (List.map _ _).Pairwise _
    rw [List.pairwise_map]
    refine ht.rise.imp fun {a b} hab => ?_
    have ea : (if a.id = j.id then j else a).id = a.id := by split <;> simp_all
    have eb : (if b.id = j.id then j else b).id = b.id := by split <;> simp_all
    rw [ea, eb]; exact hab
  st := fun x hx => by
    obtain ⟨y, hy, rfl⟩ := List.mem_map.1 hx
    split
    · exact hs
    · exact ht.st y hy
  ost := ht.ost
  rng := fun x hx => by
    rcases hx with hx | hx
    · obtain ⟨y, hy, rfl⟩ := List.mem_map.1 hx
      split
      · exact hr
      · exact ht.rng y (.inl hy)
    · exact ht.rng x (.inr hx)
  last := ht.last
  lok := ht.lok
theorem getT_rng {t : TbD} (ht : t.Ok) {id : Nat} (h : (getT t id).2 = 0) : (getT t id).1.tier < 256 ∧ 1 ≤ (getT t id).1.k ∧ (getT t id).1.k ≤ 16 ∧ 1 ≤ (getT t id).1.w ∧ (getT t id).1.w ≤ 10000 ∧ 0 ≤ (getT t id).1.credit ∧ (getT t id).1.credit ≤ (getT t id).1.w := ht.rng _ (.inl (getT_zero ht h).1)
theorem finishT_ok {t : TbD} (ht : t.Ok) (id : Nat) : (finishT t id).1.Ok := by
  unfold finishT
  split
  · exact ht
  · rename_i h
    have h := Decidable.not_not.1 h
    have hr := getT_rng ht h
    exact endT_ok ht (ht.ids (getT t id).1 (getT_zero ht h).1) (by dsimp only; omega) (.inl rfl)
theorem creditT_ok {t : TbD} (ht : t.Ok) (id : Nat) (n : Int) : (creditT t id n).1.Ok := by
  unfold creditT
  split
  · exact ht
  · rename_i h
    have h := Decidable.not_not.1 h
    have hr := getT_rng ht h
    split
    · exact ht
    · split
      · exact ht
      · exact setT_ok ht (by dsimp only; omega) (ht.st (getT t id).1 (getT_zero ht h).1)
theorem stateT_ok {t : TbD} (ht : t.Ok) (id : Nat) (st : Nat) : (stateT t id st).1.Ok := by
  unfold stateT
  split
  · exact ht
  · split
    · exact ht
    · rename_i h1 h
      have h := Decidable.not_not.1 h
      exact setT_ok ht (getT_rng ht h) (by dsimp only; omega)
theorem cancelT_ok {t : TbD} (ht : t.Ok) (id : Nat) : (cancelT t id).1.Ok := by
  unfold cancelT
  split
  · exact ht
  · rename_i h
    have h := Decidable.not_not.1 h
    exact endT_ok ht (ht.ids _ (getT_zero ht h).1) (getT_rng ht h) (.inr rfl)
theorem submitT_ok {t : TbD} (ht : t.Ok) (q : ReqD) (hq : q.Ok) : (submitT t q).1.Ok := by
  unfold submitT
  split
  · exact ht
  · rename_i h1
    split
    · exact ht
    · rename_i h2
      split
      · exact ht
      · rename_i h3
        have hn := ht.nodes
        exact {
          nodes := ht.nodes
          spent := by have := ht.spent; dsimp only; omega
          few := ⟨by dsimp only; rw [List.length_append]; simp; omega, ht.few.2⟩
          ids := fun x hx => by
            rcases List.mem_append.1 hx with hx | hx
            · have := ht.ids x hx; dsimp only; omega
            · rw [List.mem_singleton] at hx; subst hx; dsimp only; omega
          oids := fun x hx => by have := ht.oids x hx; dsimp only; omega
          rise := by
            rw [List.pairwise_append]
            refine ⟨ht.rise, List.pairwise_singleton _ _, fun a ha b hb => ?_⟩
            rw [List.mem_singleton] at hb; subst hb
            have := ht.ids a ha
            dsimp only; omega
          st := fun x hx => by
            rcases List.mem_append.1 hx with hx | hx
            · exact ht.st x hx
            · rw [List.mem_singleton] at hx; subst hx; exact (by decide : (0 : Nat) < 4)
          ost := ht.ost
          rng := fun x hx => by
            rcases hx with hx | hx
            · rcases List.mem_append.1 hx with hx | hx
              · exact ht.rng x (.inl hx)
              · rw [List.mem_singleton] at hx; subst hx
                have := hq.tier
                dsimp only; omega
            · exact ht.rng x (.inr hx)
          last := ht.last
          lok := ht.lok }
theorem actT_ok {t : TbD} (ht : t.Ok) (q : ReqD) (hq : q.Ok) : (actT t q).1.Ok := by
  unfold actT
  split
  · exact cancelT_ok ht _
  · exact submitT_ok ht q hq
theorem actT_num {t : TbD} (ht : t.Ok) (q : ReqD) (hq : q.Ok) : (actT t q).2.1 < 4294967296 := by
  unfold actT
  split
  · unfold cancelT; split
    · exact (by decide : (0 : Nat) < 4294967296)
    · exact hq.job
  · unfold submitT
    split
    · exact (by decide : (0 : Nat) < 4294967296)
    · split
      · exact (by decide : (0 : Nat) < 4294967296)
      · split
        · exact (by decide : (0 : Nat) < 4294967296)
        · have := ht.spent; dsimp only; omega
theorem doT_ok {t : TbD} (ht : t.Ok) (q : ReqD) (hq : q.Ok) : (doT t q).1.Ok := by
  unfold doT
  split
  · exact ht
  · split
    · exact ht
    · split
      · exact ht
      · split
        · exact ht
        · have h := actT_ok ht q hq
          split
          · refine { h with last := by dsimp only; rw [List.length_set]; exact ht.last, lok := fun r hr => ?_ }
            rcases List.mem_or_eq_of_mem_set hr with hr | rfl
            · exact ht.lok r hr
            · have h1 := hq.client; have h2 := hq.seq; have h3 := actT_num ht q hq
              exact ⟨h1, h2, by unfold repQ; dsimp only; omega, h3, by unfold repQ; dsimp only; omega, by unfold repQ; dsimp only; omega⟩
          · exact h
end Go.Proofs.YtombndhjoaaaiaaDoor
