/- Plain: a table is read again out of its own bytes; what a table has besides, kept by each call. (Several texts in one: JobReadM, JobRd, JobSd, JobRead, JobRd2.) -/
import Derived.Test.YtombndhjoaaaiaaDoorJobP
import Derived.Test.YtombndhjoaaaiaaDoorInkD
import Derived.Deep.CutRange
import Derived.Deep.CutBlock
import Derived.Deep.DeepMust
import Derived.Test.YtombndhjoaaaiaaDoorJobDoc
import Derived.Defers
import Derived.Recover

/- Plain: a table is read again out of its own bytes; what a table has besides, kept by each call. -/
namespace Go.Proofs.YtombndhjoaaaiaaDoor
open Go.RowKit Go.Quad _root_.Quad _root_.Quad.Ink

/-- a job without what hangs on the moment -/
def pj0 (j : JobD) : JobD := { j with state := 0, credit := 0 }
def plainT (t : TbD) : TbD := { t with active := t.active.map pj0 }
/-- a table that is read so far -/
def midT (t : TbD) (a o l : Nat) : TbD := ⟨t.nodes, t.spent, (t.active.map pj0).take a, t.over.take o, t.last.take l ++ List.replicate (8 - l) repZ⟩
theorem repZ_ok : repZ.Ok := by constructor <;> decide
theorem plainT_ok {t : TbD} (ht : t.Ok) : (plainT t).Ok where
  nodes := ht.nodes
  spent := ht.spent
  few := ⟨by show (t.active.map pj0).length ≤ 64; rw [List.length_map]; exact ht.few.1, ht.few.2⟩
  ids := fun x hx => by obtain ⟨y, hy, rfl⟩ := List.mem_map.1 hx; exact ht.ids y hy
  oids := ht.oids
  rise := by
    show (t.active.map pj0).Pairwise _
    rw [List.pairwise_map]
    exact ht.rise
  st := fun x hx => by obtain ⟨y, hy, rfl⟩ := List.mem_map.1 hx; exact (by decide : (0 : Nat) < 4)
  ost := ht.ost
  rng := fun x hx => by
    rcases hx with hx | hx
    · obtain ⟨y, hy, rfl⟩ := List.mem_map.1 hx
      have h := ht.rng y (.inl hy)
      exact ⟨h.1, h.2.1, h.2.2.1, h.2.2.2.1, h.2.2.2.2.1, Int.le_refl _, by show (0 : Int) ≤ y.w; omega⟩
    · exact ht.rng x (.inr hx)
  last := ht.last
  lok := ht.lok
theorem midT_ok {t : TbD} (ht : t.Ok) {a o l : Nat} (hl : l ≤ 8) : (midT t a o l).Ok where
  nodes := ht.nodes
  spent := ht.spent
  few := ⟨Nat.le_trans (by show (List.take _ _).length ≤ _; rw [List.length_take]; exact Nat.min_le_right _ _) (plainT_ok ht).few.1, Nat.le_trans (by show (List.take _ _).length ≤ _; rw [List.length_take]; exact Nat.min_le_right _ _) ht.few.2⟩
  ids := fun x hx => (plainT_ok ht).ids x (List.mem_of_mem_take hx)
  oids := fun x hx => ht.oids x (List.mem_of_mem_take hx)
  rise := (plainT_ok ht).rise.sublist (List.take_sublist _ _)
  st := fun x hx => (plainT_ok ht).st x (List.mem_of_mem_take hx)
  ost := fun x hx => ht.ost x (List.mem_of_mem_take hx)
  rng := fun x hx => by
    rcases hx with hx | hx
    · exact (plainT_ok ht).rng x (.inl (List.mem_of_mem_take hx))
    · exact ht.rng x (.inr (List.mem_of_mem_take hx))
  last := by
    have := ht.last
    show (List.take _ _ ++ List.replicate _ _).length = 8
    rw [List.length_append, List.length_take, List.length_replicate]; omega
  lok := fun r hr => by
    rcases List.mem_append.1 hr with hr | hr
    · exact ht.lok r (List.mem_of_mem_take hr)
    · rw [List.eq_of_mem_replicate hr]; exact repZ_ok
theorem midT_all {t : TbD} (ht : t.Ok) : midT t t.active.length t.over.length 8 = plainT t := by
  have h := ht.last
  unfold midT plainT
  rw [List.take_of_length_le (by rw [List.length_map]; exact Nat.le_refl _), List.take_of_length_le (Nat.le_refl _), List.take_of_length_le (by omega)]
  simp
theorem jobB_pj0 {j : JobD} (h : j.state < 4) : jobB (pj0 j) = jobB j := by
  have h1 : ¬ (j.state = 4) := by omega
  have h2 : ¬ (4 ≤ j.state) := by omega
  unfold jobB pj0
  simp [h1, h2]
theorem flat_pj0 : ∀ {l : List JobD}, (∀ j ∈ l, j.state < 4) → (l.map pj0).flatMap jobB = l.flatMap jobB
  | [], _ => rfl
  | j :: l, h => by
    rw [List.map_cons, List.flatMap_cons, List.flatMap_cons, jobB_pj0 (h j (List.mem_cons_self ..)), flat_pj0 fun x hx => h x (List.mem_cons_of_mem _ hx)]
theorem bytes_plain {t : TbD} (ht : t.Ok) : bytesT (plainT t) = bytesT t := by
  show numL t.spent ++ (numL (t.active.map pj0).length ++ (t.active.map pj0).flatMap jobB) ++ jobsB t.over ++ t.last.flatMap repB = numL t.spent ++ (numL t.active.length ++ t.active.flatMap jobB) ++ jobsB t.over ++ t.last.flatMap repB
  rw [flat_pj0 ht.st, List.length_map]

theorem numS_at {n : Nat} (r : List UInt8) (h : n < 18446744073709551616) : numS (numL n ++ r, false) = (n, (r, false)) := by
  unfold numS numTo
  rw [rd_num0 r h]
  simp
theorem intS_at {n : Nat} (r : List UInt8) (h : n ≤ 2147483647) : intS (numL n ++ r, false) = (n, (r, false)) := by
  unfold intS
  rw [numS_at r (by omega)]
  simp; omega
theorem boolS_at (b : Bool) (r : List UInt8) : boolS (numL (if b then 1 else 0) ++ r, false) = (b, (r, false)) := by
  unfold boolS
  rw [numS_at r (by split <;> omega)]
  cases b <;> simp

/-- what a table has besides: it may be read again -/
structure Fit (t : TbD) : Prop where
  lst : ∀ c r, t.last[c]? = some r → r = repZ ∨ (r.client = c ∧ r.e = 0 ∧ r.state = 0 ∧ r.credit = 0 ∧ 1 ≤ r.seq ∧ 1 ≤ r.job ∧ r.job ≤ t.spent)
  jobs : ∀ j, j ∈ t.active ∨ j ∈ t.over → j.tier ≤ 3 ∧ j.k ≤ t.nodes ∧ (j.state = 4 → j.credit = j.w)
  one : (t.active ++ t.over).Pairwise (fun a b => a.id ≠ b.id)
theorem Fit.new (n : Int) : Fit (newT n) where
  lst := fun c r hr => .inl (List.mem_replicate.1 (List.mem_of_getElem? (show (List.replicate 8 repZ)[c]? = some r from hr))).2
  jobs := by intro j hj; simp [newT] at hj
  one := List.Pairwise.nil
theorem Fit.plain {t : TbD} (h : Fit t) : Fit (plainT t) where
  lst := h.lst
  jobs := fun j hj => by
    rcases hj with hj | hj
    · obtain ⟨y, hy, rfl⟩ := List.mem_map.1 hj
      have := h.jobs y (.inl hy)
      exact ⟨this.1, this.2.1, fun e => absurd e (by show ¬ ((0 : Nat) = 4); decide)⟩
    · exact h.jobs j (.inr hj)
  one := by
    have := h.one
    rw [List.pairwise_append] at this
    show (t.active.map pj0 ++ t.over).Pairwise _
    rw [List.pairwise_append]
    refine ⟨?_, this.2.1, fun a ha b hb => ?_⟩
    · rw [List.pairwise_map]; exact this.1
    · obtain ⟨y, hy, rfl⟩ := List.mem_map.1 ha
      exact this.2.2 y hy b hb
theorem Fit.ends {t : TbD} (h : Fit t) {j : JobD} (hj : ∃ x ∈ t.active, x.id = j.id ∧ x.tier = j.tier ∧ x.k = j.k) (st : Nat) (hc : st = 4 → j.credit = j.w) : Fit (endT t j st) where
  lst := h.lst
  jobs := fun x hx => by
    rcases hx with hx | hx
    · exact h.jobs x (.inl (List.mem_filter.1 hx).1)
    · rcases overT_mem hx with hx | rfl
      · exact h.jobs x (.inr hx)
      · obtain ⟨y, hy, _, e1, e2⟩ := hj
        have := h.jobs y (.inl hy)
        exact ⟨by show j.tier ≤ 3; omega, by show j.k ≤ t.nodes; omega, hc⟩
  one := by
    have h1 := h.one
    rw [List.pairwise_append] at h1
    obtain ⟨y, hy, hid, _, _⟩ := hj
    have hall : ((t.active.filter fun x : JobD => x.id != j.id) ++ (t.over ++ [{ j with state := st }])).Pairwise (fun a b : JobD => a.id ≠ b.id) := by
      rw [List.pairwise_append, List.pairwise_append]
      refine ⟨h1.1.filter _, ⟨h1.2.1, List.pairwise_singleton _ _, fun a ha b hb => ?_⟩, fun a ha b hb => ?_⟩
      · rw [List.mem_singleton] at hb; subst hb
        exact fun e => h1.2.2 y hy a ha (by rw [hid]; exact e.symm)
      · obtain ⟨ha1, ha2⟩ := List.mem_filter.1 ha
        rcases List.mem_append.1 hb with hb | hb
        · exact h1.2.2 a ha1 b hb
        · rw [List.mem_singleton] at hb; subst hb
          simpa using ha2
    refine hall.sublist ?_
    show List.Sublist ((t.active.filter fun x : JobD => x.id != j.id) ++ overT t.over { j with state := st }) _
    unfold overT
    split
    · exact (List.Sublist.refl _).append (List.drop_sublist _ _)
    · exact List.Sublist.refl _
theorem Fit.sets {t : TbD} (h : Fit t) {j : JobD} (hj : ∃ x ∈ t.active, x.id = j.id ∧ x.tier = j.tier ∧ x.k = j.k) (hs : j.state < 4) : Fit (setT t j) where
  lst := h.lst
  jobs := fun x hx => by
    rcases hx with hx | hx
    · obtain ⟨y, hy, rfl⟩ := List.mem_map.1 hx
      split
      · obtain ⟨z, hz, _, e1, e2⟩ := hj
        have := h.jobs z (.inl hz)
        exact ⟨by omega, by show j.k ≤ t.nodes; omega, fun e => by omega⟩
      · exact h.jobs y (.inl hy)
    · exact h.jobs x (.inr hx)
  one := by
    have h1 := h.one
    rw [List.pairwise_append] at h1
    have hid : ∀ a : JobD, (if a.id = j.id then j else a).id = a.id := fun a => by split <;> simp_all
    show (t.active.map (fun x => if x.id = j.id then j else x) ++ t.over).Pairwise _
    rw [List.pairwise_append, List.pairwise_map]
    refine ⟨h1.1.imp fun {a b} hab => by rw [hid, hid]; exact hab, h1.2.1, fun a ha b hb => ?_⟩
    obtain ⟨y, hy, rfl⟩ := List.mem_map.1 ha
    rw [hid]
    exact h1.2.2 y hy b hb
theorem Fit.finish {t : TbD} (h : Fit t) (ht : t.Ok) (id : Nat) : Fit (finishT t id).1 := by
  unfold finishT
  split
  · exact h
  · rename_i hg
    have hz := getT_zero ht (Decidable.not_not.1 hg)
    exact h.ends (j := { (getT t id).1 with credit := (getT t id).1.w }) ⟨_, hz.1, rfl, rfl, rfl⟩ 4 (fun _ => rfl)
theorem Fit.credit {t : TbD} (h : Fit t) (ht : t.Ok) (id : Nat) (n : Int) : Fit (creditT t id n).1 := by
  unfold creditT
  split
  · exact h
  · rename_i hg
    have hz := getT_zero ht (Decidable.not_not.1 hg)
    split
    · exact h
    · split
      · exact h
      · exact h.sets (j := { (getT t id).1 with credit := n }) ⟨_, hz.1, rfl, rfl, rfl⟩ (show (getT t id).1.state < 4 from ht.st _ hz.1)
theorem Fit.state {t : TbD} (h : Fit t) (ht : t.Ok) (id s : Nat) : Fit (stateT t id s).1 := by
  unfold stateT
  split
  · exact h
  · split
    · exact h
    · rename_i h3 hg
      have hz := getT_zero ht (Decidable.not_not.1 hg)
      exact h.sets (j := { (getT t id).1 with state := s }) ⟨_, hz.1, rfl, rfl, rfl⟩ (by show s < 4; omega)
theorem Fit.act {t : TbD} (h : Fit t) (ht : t.Ok) (q : ReqD) : Fit (actT t q).1 ∧ ((actT t q).2.2 = 0 → 1 ≤ (actT t q).2.1 ∧ (actT t q).2.1 ≤ (actT t q).1.spent) := by
  unfold actT
  split
  · unfold cancelT
    split
    · rename_i hg
      exact ⟨h, fun e => absurd e hg⟩
    · rename_i hg
      have hz := getT_zero ht (Decidable.not_not.1 hg)
      have hi := ht.ids _ hz.1
      refine ⟨h.ends ⟨_, hz.1, rfl, rfl, rfl⟩ 5 (fun e => by cases e), fun _ => ?_⟩
      have e := hz.2.1
      rw [e] at hi
      exact hi
  · unfold submitT
    split
    · exact ⟨h, fun e => absurd e (by show ¬ ((1 : Int) = 0); decide)⟩
    · rename_i h1
      split
      · exact ⟨h, fun e => absurd e (by show ¬ ((9 : Int) = 0); decide)⟩
      · rename_i h2
        split
        · exact ⟨h, fun e => absurd e (by show ¬ ((8 : Int) = 0); decide)⟩
        · refine ⟨?_, fun _ => ⟨by show 1 ≤ t.spent + 1; omega, Nat.le_refl _⟩⟩
          have h3 := h.one
          rw [List.pairwise_append] at h3
          exact {
            lst := fun c r hr => by
              rcases h.lst c r hr with e | ⟨a, b, c1, d, e1, f, g⟩
              · exact .inl e
              · exact .inr ⟨a, b, c1, d, e1, f, Nat.le_succ_of_le g⟩
            jobs := fun x hx => by
              rcases hx with hx | hx
              · rcases List.mem_append.1 hx with hx | hx
                · exact h.jobs x (.inl hx)
                · rw [List.mem_singleton] at hx; subst hx
                  exact ⟨by show q.tier ≤ 3; omega, by show q.k ≤ t.nodes; omega, fun e => absurd e (by show ¬ ((0 : Nat) = 4); decide)⟩
              · exact h.jobs x (.inr hx)
            one := by
              show ((t.active ++ [_]) ++ t.over).Pairwise _
              rw [List.pairwise_append, List.pairwise_append]
              refine ⟨⟨h3.1, List.pairwise_singleton _ _, fun a ha b hb => ?_⟩, h3.2.1, fun a ha b hb => ?_⟩
              · rw [List.mem_singleton] at hb; subst hb
                have := ht.ids a ha
                show a.id ≠ t.spent + 1; omega
              · rcases List.mem_append.1 ha with ha | ha
                · exact h3.2.2 a ha b hb
                · rw [List.mem_singleton] at ha; subst ha
                  have := ht.oids b hb
                  show t.spent + 1 ≠ b.id; omega }
theorem Fit.does {t : TbD} (h : Fit t) (ht : t.Ok) (q : ReqD) : Fit (doT t q).1 := by
  have ha := h.act ht q
  have hl := act_last' t q
  unfold doT
  split
  · exact h
  · split
    · exact h
    · split
      · exact h
      · rename_i ho
        have ho := Decidable.not_not.1 ho
        have hs : q.seq ≠ 0 := fun e => by
          unfold orderT at ho
          rw [if_pos e] at ho
          exact absurd ho (by decide)
        split
        · exact h
        · split
          · rename_i he
            have h2 := ha.2 he
            exact {
              lst := fun c r hr => by
                have hr : (t.last.set q.client { repQ q with job := (actT t q).2.1, e := 0 })[c]? = some r := hr
                by_cases e : q.client = c
                · subst e
                  rw [List.getElem?_set] at hr
                  simp only [if_true] at hr
                  split at hr
                  · simp only [Option.some.injEq] at hr
                    subst hr
                    exact .inr ⟨rfl, rfl, rfl, rfl, by show 1 ≤ q.seq; omega, h2.1, h2.2⟩
                  · cases hr
                · rw [List.getElem?_set_ne e, ← hl] at hr
                  exact ha.1.lst c r hr
              jobs := ha.1.jobs
              one := ha.1.one }
          · exact ha.1
end Go.Proofs.YtombndhjoaaaiaaDoor

/- The walks of layer 16: a job is read; asked: that its own bytes stand there. -/
namespace Go.Proofs.YtombndhjoaaaiaaDoor
open Go.RowKit Go.Quad _root_.Quad _root_.Quad.Ink

theorem EyeAt.chg {S : List Nat} {w w' : World} {B g : Nat} {p : List UInt8} {bad : Bool} (h : EyeAt w B g p bad) (hc : Chg S w w') (hS : ∀ k ∈ S, k < B ∨ g < k) : EyeAt w' B g p bad := by
  obtain ⟨a, cap, h⟩ := h
  exact ⟨a, cap, h.own.keep hc (fun m => by have := hS g m; have := h.ge; omega), h.row.chg hc (fun x hx hm => by have := hS _ hm; have := h.up x hx; have := h.lt x hx; omega), h.ge, h.up, h.lt, h.form⟩
theorem numE {w : World} {B g n : Nat} {r : List UInt8} (h : EyeAt w B g (numL n ++ r) false) (hn : n < 18446744073709551616) :
    Calls Tryd.prog 72 #[.pointer (some ⟨g, 0, none⟩)] w fun e w' => e = .returned (.int .u64 (n : Int)) ∧ EyeAt w' B g r false ∧ Chg [g] w w' := by
  have := enum_calls w B g (numL n ++ r, false) h
  rw [numS_at r hn] at this
  exact this
theorem intE {w : World} {B g n : Nat} {r : List UInt8} (h : EyeAt w B g (numL n ++ r) false) (hn : n ≤ 2147483647) :
    Calls Tryd.prog 73 #[.pointer (some ⟨g, 0, none⟩)] w fun e w' => e = .returned (.int .i64 (n : Int)) ∧ EyeAt w' B g r false ∧ Chg [g] w w' := by
  have := eint_calls w B g (numL n ++ r, false) h
  rw [intS_at r hn] at this
  exact this
theorem boolE {w : World} {B g : Nat} {b : Bool} {r : List UInt8} (h : EyeAt w B g (numL (if b then 1 else 0) ++ r) false) :
    Calls Tryd.prog 84 #[.pointer (some ⟨g, 0, none⟩)] w fun e w' => e = .returned (.bool b) ∧ EyeAt w' B g r false ∧ Chg [g] w w' := by
  have := ebool_calls w B g (numL (if b then 1 else 0) ++ r, false) h
  rw [boolS_at b r] at this
  exact this
def pjO (over : Bool) (j : JobD) : JobD := if over then j else pj0 j
theorem jobB_parts (j : JobD) (r : List UInt8) : jobB j ++ r = numL j.id ++ (numL j.tier ++ (numL j.k.toNat ++ (numL j.w.toNat ++ (numL (if (decide (j.state = 4)) then 1 else 0) ++ (numL (if 4 ≤ j.state then j.credit.toNat else 0) ++ r))))) := by
  unfold jobB
  by_cases h : j.state = 4 <;> simp [h]

set_option maxRecDepth 100000 in
set_option maxHeartbeats 20000000 in
theorem readj_calls (w : World) (B g : Nat) (j : JobD) (r : List UInt8) (over : Bool) (h : EyeAt w B g (jobB j ++ r) false) (hj : JobIn j) (hs : if over then j.state = 4 ∨ j.state = 5 else j.state < 4) :
    Calls Tryd.prog 74 #[.pointer (some ⟨g, 0, none⟩), .bool over] w fun e w' => e = .returned (.agg (jobV (pjO over j)).toArray) ∧ EyeAt w' B g r false ∧ Chg [g] w w' := by
  obtain ⟨h1, h2, h3, h4, h5, h6, h7, h8⟩ := hj
  rw [jobB_parts] at h
  have Hc7 := hid h7
  have hgl : g < w.heap.size := by obtain ⟨_, _, h⟩ := h; exact h.own.lt
  have hgB : B ≤ g := by obtain ⟨_, _, h⟩ := h; exact h.ge
  obtain ⟨z, hz⟩ : ∃ z, w.heap.size = z := ⟨_, rfl⟩
  have b0 := below_alloc w (.cells zjob 37)
  have K0 := hid (show Blk (w.alloc (.cells zjob 37)) z (jobV jobZ) 37 from by rw [← hz]; exact blk_alloc w (jobV jobZ) 37)
  have E0 := hid (h.chg (Chg.of_below [] b0) (by simp))
  have C0 := hid (Chg.of_below [g] b0)
  obtain ⟨kn, hkn⟩ : ∃ kn : Nat, j.k.toNat = kn := ⟨_, rfl⟩
  obtain ⟨wn, hwn⟩ : ∃ wn : Nat, j.w.toNat = wn := ⟨_, rfl⟩
  obtain ⟨cn, hcn⟩ : ∃ cn : Nat, (if 4 ≤ j.state then j.credit.toNat else 0) = cn := ⟨_, rfl⟩
  have hcn2 : cn ≤ 10000 := by rw [← hcn]; split <;> omega
  have KN := hid (show (kn : Int) = j.k from by omega)
  have WN := hid (show (wn : Int) = j.w from by omega)
  have CN := hid hcn
  rw [hkn, hwn, hcn] at E0
  have lid : (j.id : Int) ≤ 4294967295 := by omega
  have ltr : (j.tier : Int) ≤ 255 := by omega
  have e1 := hid (numE E0.out (by omega))
  have X1 := hid (show j.tier < 18446744073709551616 from by omega)
  have X2 := hid (show kn ≤ 2147483647 from by omega)
  have X3 := hid (show wn ≤ 2147483647 from by omega)
  have X4 := hid (show cn ≤ 2147483647 from by omega)
  have Zg := hid (show z ≠ g from by omega)
  have GL := hid hgl
  have GB := hid hgB
  have Zz := hid hz
  clear h hkn hwn hcn hcn2 b0 h1 h2 h3 h4 h5 h6 h7 h8 hgl hgB hz
  go_enter Tryd.func74, Tryd.ntmps74
  go_upto_region 1 with (refine wpListQ_alloc (o := ⟨some 4, _, _, _, _, _⟩) 37 rfl rfl zjob 6 info_job ?_)
  rw [Zz.out]
  generalize (w.alloc (.cells zjob 37)) = w0 at K0 E0 C0 e1 ⊢
  go_upto_region 2 with (first
    | (go_at_call 72; go_must (first
        | (refine e1.out.mono ?_; rintro e w1 ⟨rfl, he, hc⟩; have e2 := hid (numE he X1.out); have C1 := hid (C0.out.trans hc); have K1 := hid (K0.out.keep hc (by simpa using Zg.out)); clear he hc)
        | (refine e2.out.mono ?_; rintro e w2 ⟨rfl, he, hc⟩; have e3 := hid (intE he X2.out); have C2 := hid (C1.out.trans hc); have K2 := hid (K1.out.keep hc (by simpa using Zg.out)); clear he hc)))
    | (go_at_call 73; go_must (first
        | (refine e3.out.mono ?_; rintro e w3 ⟨rfl, he, hc⟩; have e4 := hid (intE he X3.out); have C3 := hid (C2.out.trans hc); have K3 := hid (K2.out.keep hc (by simpa using Zg.out)); clear he hc; rw [KN.out])
        | (refine e4.out.mono ?_; rintro e w4 ⟨rfl, he, hc⟩; have E4 := hid he; have C4 := hid (C3.out.trans hc); have K4 := hid (K3.out.keep hc (by simpa using Zg.out)); clear he hc; rw [WN.out])))
    | (refine wpListQ_alloc (o := ⟨some 5, _, _, _, _, _⟩) 37 rfl rfl zjob 6 info_job ?_) | (refine wpListQ_store_new (o := ⟨none, _, 0, _, _, _⟩) rfl 37 (.tmp 5) (.tmp 17) rfl zjob (jobV ⟨j.id, j.tier, j.k, j.w, 0, 0⟩).toArray rfl rfl size_job rfl (all_oneCell_toArray (jobV_one _)) ?_))
  dsimp only [Act.put]
  obtain ⟨z5, hz5⟩ : ∃ z5, w4.heap.size = z5 := ⟨_, rfl⟩
  have b5 := below_alloc w4 (.cells (jobV (⟨j.id, j.tier, j.k, j.w, 0, 0⟩ : JobD)).toArray 37)
  have K5 := hid (show Blk (w4.alloc (.cells (jobV (⟨j.id, j.tier, j.k, j.w, 0, 0⟩ : JobD)).toArray 37)) z5 (jobV (⟨j.id, j.tier, j.k, j.w, 0, 0⟩ : JobD)) 37 from by rw [← hz5]; exact blk_alloc w4 (jobV (⟨j.id, j.tier, j.k, j.w, 0, 0⟩ : JobD)) 37)
  have K5z := hid (K4.out.below b5)
  have e5 := hid (boolE (E4.out.chg (Chg.of_below [] b5) (by simp)))
  have C5 := hid (C4.out.trans (Chg.of_below [g] b5))
  have Zne := hid (show z ≠ z5 from by have := K4.out.lt; omega)
  have Zge := hid (show w.heap.size ≤ z5 from by have := C4.out.size; omega)
  have Zg5 := hid (show g < z5 from by have := Zge.out; have := GL.out; omega)
  have Zg1 := hid (show g < z from by have := Zz.out; have := GL.out; omega)
  rw [hz5]
  clear b5 hz5 e1 e2 e3 e4 K0 K1 K2 K3 K4 C0 C1 C2 C3 C4 E4 E0
  generalize (w4.alloc (.cells (jobV (⟨j.id, j.tier, j.k, j.w, 0, 0⟩ : JobD)).toArray 37)) = w5 at K5 K5z e5 C5 ⊢
  go_upto_region 3 with (go_at_call 84; go_must (refine e5.out.mono ?_; rintro e w6 ⟨rfl, he, hc⟩; have e6 := hid (intE he X4.out); have C6 := hid (C5.out.trans hc); have K6 := hid (K5.out.keep hc (by have := Zg5.out; simp; omega)); have K6z := hid (K5z.out.keep hc (by simpa using Zg.out)); clear he hc))
  have c5 := K6.out.get 5 rfl
  have f5 := K6.out.free 5
  have Hs := hid hs
  have hs2 : (decide (j.state = 4) = true ∧ over = true) ∨ (decide (j.state = 4) = false ∧ over = true) ∨ over = false := by
    cases over
    · exact .inr (.inr rfl)
    · by_cases h4 : j.state = 4
      · exact .inl ⟨by simp [h4], rfl⟩
      · exact .inr (.inl ⟨by simp [h4], rfl⟩)
  have HJ2 := hid hs2
  clear hs hs2
  have GO : True := trivial
  generalize hdn : decide (j.state = 4) = dn at HJ2 e6 ⊢
  have HDN := hid hdn
  clear hdn
  go_upto_region 4 with (go_at_call 73; go_must (refine e6.out.mono ?_; rintro e w7a ⟨rfl, he, hc⟩; have E7a := hid he; have C7a := hid (C6.out.trans hc); have K7a := hid (K6.out.keep hc (by have := Zg5.out; simp; omega)); have K7az := hid (K6z.out.keep hc (by simpa using Zg.out)); have c5b := K7a.out.get 5 rfl; have f5b := K7a.out.free 5; clear he hc))
  have CS := chg_setCell w7a z5 5 (.int .i64 (cn : Int))
  have K7 := hid (show Blk (w7a.setCell ⟨z5, 5, none⟩ (.int .i64 (cn : Int))) z5 (jobV (⟨j.id, j.tier, j.k, j.w, 0, (cn : Int)⟩ : JobD)) 37 from K7a.out.set 5 (.int .i64 (cn : Int)))
  have K7z := hid (K7az.out.keep CS (by simp; exact Zne.out))
  have E7 := hid (E7a.out.chg CS (by intro k hk; simp at hk; subst hk; exact .inr Zg5.out))
  have C7 := hid (C7a.out.newer CS (by intro k hk; simp at hk; subst hk; exact Zge.out))
  clear CS c5 f5 c5b f5b K7a K7az E7a C7a K5 K5z K6 K6z C5 C6 e5 e6
  generalize (w7a.setCell ⟨z5, 5, none⟩ (.int .i64 (cn : Int))) = w7 at K7 K7z E7 C7 ⊢
  rcases HJ2.out with ⟨rfl, rfl⟩ | ⟨rfl, rfl⟩ | rfl
  · have EJ : jobV (⟨j.id, j.tier, j.k, j.w, 4, (cn : Int)⟩ : JobD) = jobV (pjO true j) := by
      have h4 : j.state = 4 := of_decide_eq_true HDN.out
      have hc := CN.out
      rw [if_pos (by omega)] at hc
      show jobV _ = jobV j
      rw [show (cn : Int) = j.credit from by have := Hc7.out; omega]
      simp only [jobV, h4]
      try rfl
    clear HJ2
    have c4 := K7.out.get 4 rfl
    have f4 := K7.out.free 4
    go_upto_region 8 with fail
    have K8 := hid (show Blk (w7.setCell ⟨z5, 4, none⟩ (.int .u8 4)) z5 (jobV (⟨j.id, j.tier, j.k, j.w, 4, (cn : Int)⟩ : JobD)) 37 from K7.out.set 4 (.int .u8 4))
    have CS := chg_setCell w7 z5 4 (.int .u8 4)
    have K8z := hid (K7z.out.keep CS (by simp; exact Zne.out))
    have E8 := hid (E7.out.chg CS (by intro k hk; simp at hk; subst hk; exact .inr Zg5.out))
    have C8 := hid (C7.out.newer CS (by intro k hk; simp at hk; subst hk; exact Zge.out))
    clear c4 f4 CS
    generalize (w7.setCell ⟨z5, 4, none⟩ (.int .u8 4)) = w8 at K8 K8z E8 C8 ⊢
    repeat (first | (refine wpList_load_blk (o := ⟨some 32, _, _, _, _, _⟩) 37 (.tmp 5) rfl rfl z5 (jobV (⟨j.id, j.tier, j.k, j.w, 4, (cn : Int)⟩ : JobD)) 37 rfl K8.out row_job size_job ?_) | (refine wpList_store_blk (o := ⟨none, _, 0, _, _, _⟩) 37 (.tmp 4) (.tmp 32) rfl rfl z (jobV jobZ) (jobV (⟨j.id, j.tier, j.k, j.w, 4, (cn : Int)⟩ : JobD)) 37 rfl rfl K8z.out rfl size_job (jobV_one _) ?_; intro w9 hZ9 hC9) | go_step)
    refine bodyPost_ret (v := .agg (jobV (⟨j.id, j.tier, j.k, j.w, 4, (cn : Int)⟩ : JobD)).toArray) (results_blk (fn := Tryd.f74) (p := 4) (ty := 37) rfl _ z (jobV (⟨j.id, j.tier, j.k, j.w, 4, (cn : Int)⟩ : JobD)) 37 rfl hZ9 row_job size_job) rfl ?_
    refine ⟨by rw [EJ], E8.out.chg hC9 (by intro k hk; simp at hk; subst hk; exact .inr Zg1.out), C8.out.newer hC9 (by intro k hk; simp at hk; subst hk; exact Nat.le_of_eq Zz.out)⟩
  · have EJ : jobV (⟨j.id, j.tier, j.k, j.w, 5, (cn : Int)⟩ : JobD) = jobV (pjO true j) := by
      have h4 : ¬ (j.state = 4) := of_decide_eq_false HDN.out
      have h5 : j.state = 5 := by rcases Hs.out with h | h; exact absurd h h4; exact h
      have hc := CN.out
      rw [if_pos (by omega)] at hc
      show jobV _ = jobV j
      rw [show (cn : Int) = j.credit from by have := Hc7.out; omega]
      simp only [jobV, h5]
      try rfl
    clear HJ2
    have c4 := K7.out.get 4 rfl
    have f4 := K7.out.free 4
    go_upto_region 8 with fail
    have K8 := hid (show Blk (w7.setCell ⟨z5, 4, none⟩ (.int .u8 5)) z5 (jobV (⟨j.id, j.tier, j.k, j.w, 5, (cn : Int)⟩ : JobD)) 37 from K7.out.set 4 (.int .u8 5))
    have CS := chg_setCell w7 z5 4 (.int .u8 5)
    have K8z := hid (K7z.out.keep CS (by simp; exact Zne.out))
    have E8 := hid (E7.out.chg CS (by intro k hk; simp at hk; subst hk; exact .inr Zg5.out))
    have C8 := hid (C7.out.newer CS (by intro k hk; simp at hk; subst hk; exact Zge.out))
    clear c4 f4 CS
    generalize (w7.setCell ⟨z5, 4, none⟩ (.int .u8 5)) = w8 at K8 K8z E8 C8 ⊢
    repeat (first | (refine wpList_load_blk (o := ⟨some 32, _, _, _, _, _⟩) 37 (.tmp 5) rfl rfl z5 (jobV (⟨j.id, j.tier, j.k, j.w, 5, (cn : Int)⟩ : JobD)) 37 rfl K8.out row_job size_job ?_) | (refine wpList_store_blk (o := ⟨none, _, 0, _, _, _⟩) 37 (.tmp 4) (.tmp 32) rfl rfl z (jobV jobZ) (jobV (⟨j.id, j.tier, j.k, j.w, 5, (cn : Int)⟩ : JobD)) 37 rfl rfl K8z.out rfl size_job (jobV_one _) ?_; intro w9 hZ9 hC9) | go_step)
    refine bodyPost_ret (v := .agg (jobV (⟨j.id, j.tier, j.k, j.w, 5, (cn : Int)⟩ : JobD)).toArray) (results_blk (fn := Tryd.f74) (p := 4) (ty := 37) rfl _ z (jobV (⟨j.id, j.tier, j.k, j.w, 5, (cn : Int)⟩ : JobD)) 37 rfl hZ9 row_job size_job) rfl ?_
    refine ⟨by rw [EJ], E8.out.chg hC9 (by intro k hk; simp at hk; subst hk; exact .inr Zg1.out), C8.out.newer hC9 (by intro k hk; simp at hk; subst hk; exact Nat.le_of_eq Zz.out)⟩
  · have EJ : jobV (⟨j.id, j.tier, j.k, j.w, 0, (cn : Int)⟩ : JobD) = jobV (pjO false j) := by
      have h4 : j.state < 4 := Hs.out
      have hc := CN.out
      rw [if_neg (by omega)] at hc
      show jobV _ = jobV (pj0 j)
      rw [← hc]
      rfl
    clear HJ2
    go_upto_region 8 with fail
    have K8 := hid K7.out
    have K8z := hid K7z.out
    have E8 := hid E7.out
    have C8 := hid C7.out
    clear K7 K7z E7 C7
    repeat (first | (refine wpList_load_blk (o := ⟨some 32, _, _, _, _, _⟩) 37 (.tmp 5) rfl rfl z5 (jobV (⟨j.id, j.tier, j.k, j.w, 0, (cn : Int)⟩ : JobD)) 37 rfl K8.out row_job size_job ?_) | (refine wpList_store_blk (o := ⟨none, _, 0, _, _, _⟩) 37 (.tmp 4) (.tmp 32) rfl rfl z (jobV jobZ) (jobV (⟨j.id, j.tier, j.k, j.w, 0, (cn : Int)⟩ : JobD)) 37 rfl rfl K8z.out rfl size_job (jobV_one _) ?_; intro w9 hZ9 hC9) | go_step)
    refine bodyPost_ret (v := .agg (jobV (⟨j.id, j.tier, j.k, j.w, 0, (cn : Int)⟩ : JobD)).toArray) (results_blk (fn := Tryd.f74) (p := 4) (ty := 37) rfl _ z (jobV (⟨j.id, j.tier, j.k, j.w, 0, (cn : Int)⟩ : JobD)) 37 rfl hZ9 row_job size_job) rfl ?_
    refine ⟨by rw [EJ], E8.out.chg hC9 (by intro k hk; simp at hk; subst hk; exact .inr Zg1.out), C8.out.newer hC9 (by intro k hk; simp at hk; subst hk; exact Nat.le_of_eq Zz.out)⟩
end Go.Proofs.YtombndhjoaaaiaaDoor

/- The walks of layer 16: may a table be so; asked: that it is one. -/
namespace Go.Proofs.YtombndhjoaaaiaaDoor
open Go.RowKit Go.Quad _root_.Quad _root_.Quad.Ink

def unitR (v : Value) : Option (DataW Unit × List MemPlace) :=
  match v with
  | .agg xs => match xs.toList with
    | [] => some (.agg [], [])
    | _ => none
  | _ => none
theorem unitR_mk : unitR (.agg #[]) = some (.agg [], []) := rfl
theorem unitR_inv {v : Value} {ps : List MemPlace} (h : unitR v = some (.agg [], ps)) : v = .agg #[] := by
  unfold unitR at h
  split at h
  · rename_i xs
    split at h
    · rename_i hx
      have : xs = #[] := by rw [← Array.toArray_toList (xs := xs), hx]
      rw [this]
    · cases h
  · cases h
theorem zeroUnit (w : World) : (zeroValue 106).run Tryd.prog w = .ok (.agg #[]) w := by kernel_rfl
/-- the numbers that were seen -/
structure SeenIs (D : DataW Unit) (L : List JobD) : Prop where
  tidy : Maps.Tidy D
  has : ∀ id, Maps.has D (idK id) = L.any (fun j => j.id == id)
  unit : ∀ id, D.atKey (idK id) (.agg []) = .agg []
theorem SeenIs.nil : SeenIs (.map []) [] := ⟨Maps.tidy_empty, fun _ => rfl, fun _ => rfl⟩
theorem SeenIs.put {D : DataW Unit} {L : List JobD} (h : SeenIs D L) (j : JobD) : SeenIs (D.put (idK j.id) (.agg [])) (L ++ [j]) := by
  have hm := h.tidy.isMap
  refine ⟨h.tidy.put (idK_key _) _, fun id => ?_, fun id => ?_⟩
  · rw [List.any_append]
    by_cases e : id = j.id
    · subst e
      rw [Maps.has_put_same hm (idK_key _)]
      simp
    · rw [Maps.has_put_other (idK_ne e), h.has id]
      have : (j.id == id) = false := by rw [beq_eq_false_iff_ne]; exact fun h => e h.symm
      simp [this]
  · by_cases e : id = j.id
    · subst e
      exact Maps.atKey_put_same hm (idK_key _) _ _
    · rw [Maps.atKey_put_other (idK_ne e), h.unit id]
/-- what a job must be -/
structure Sd (t : TbD) (j : JobD) : Prop where
  id : 1 ≤ j.id ∧ j.id ≤ t.spent
  tier : j.tier ≤ 3
  k : 1 ≤ j.k ∧ j.k ≤ t.nodes
  w : 1 ≤ j.w ∧ j.w ≤ 10000
  credit : j.credit ≤ j.w
  done : j.state = 4 → j.credit = j.w
theorem Fit.sd {t : TbD} (h : Fit t) (ht : t.Ok) : ∀ j ∈ t.active ++ t.over, Sd t j := fun j hj => by
  have hj' := List.mem_append.1 hj
  have h1 := h.jobs j hj'
  have h2 := ht.rng j hj'
  refine ⟨?_, h1.1, ⟨h2.2.1, h1.2.1⟩, ⟨h2.2.2.2.1, h2.2.2.2.2.1⟩, h2.2.2.2.2.2.2, h1.2.2⟩
  rcases hj' with hj | hj
  · exact ht.ids j hj
  · exact ht.oids j hj
def SdRel1 (w : World) (iv : Value) (wr : World) : Prop := ∃ k : Nat, iv = .int .i64 (k : Int) ∧ k ≤ 8 ∧ Below w.heap.size w wr
def SeenAt (w : World) (m : Nat) (L : List JobD) (W : World) : Prop := Below w.heap.size w W ∧ w.heap.size ≤ m ∧ ∃ nn D, nn ≤ L.length ∧ W.ownsMap Tryd.prog 28 unitR m nn D ∧ SeenIs D L
theorem SeenAt.below {w W W' : World} {m : Nat} {L : List JobD} (h : SeenAt w m L W) (hb : Below W.heap.size W W') : SeenAt w m L W' := by
  obtain ⟨h1, h2, nn, D, h3, h4, h5⟩ := h
  exact ⟨h1.trans (hb.mono h1.size), h2, nn, D, h3, owns_block h4 (hb.block m h4.lt), h5⟩

def seenL (t : TbD) (k : Nat) : List JobD := if k = 0 then [] else if k = 1 then t.active else t.active ++ t.over
/-- what stands by while numbers are seen -/
structure SdSt (w : World) (T b m g : Nat) (a2 : Option Addr) (k2 : Nat) (ao : Option Addr) (co : Nat) (ov : Value) (t : TbD) (L : List JobD) (W : World) : Prop where
  seen : SeenAt w m L W
  two : Blk W g [.slice a2 t.active.length k2, .slice ao t.over.length co] 43
  act : CS W a2 k2 6 (t.active.flatMap jobV)
  over : CS W ao co 6 (t.over.flatMap jobV)
  own : Blk W T (tbV t b ov) 75
  ng : g ≠ m
  nT : T ≠ m
  na : ∀ x, a2 = some x → x.block ≠ m
  no : ∀ x, ao = some x → x.block ≠ m
theorem SdSt.below {w W W' : World} {T b m g : Nat} {a2 : Option Addr} {k2 : Nat} {ao : Option Addr} {co : Nat} {ov : Value} {t : TbD} {L : List JobD} (h : SdSt w T b m g a2 k2 ao co ov t L W) (hb : Below W.heap.size W W') : SdSt w T b m g a2 k2 ao co ov t L W' :=
  ⟨h.seen.below hb, h.two.below hb, h.act.below hb, h.over.below hb, h.own.below hb, h.ng, h.nT, h.na, h.no⟩
theorem SdSt.put {w W W' : World} {T b m g : Nat} {a2 : Option Addr} {k2 : Nat} {ao : Option Addr} {co : Nat} {ov : Value} {t : TbD} {L L' : List JobD} (h : SdSt w T b m g a2 k2 ao co ov t L W) (hc : Chg [m] W W') (hs : SeenAt w m L' W') : SdSt w T b m g a2 k2 ao co ov t L' W' :=
  ⟨hs, h.two.keep hc (by simpa using h.ng), h.act.chg hc (fun x hx => by simpa using h.na x hx), h.over.chg hc (fun x hx => by simpa using h.no x hx), h.own.keep hc (by simpa using h.nT), h.ng, h.nT, h.na, h.no⟩
def SdOut (w : World) (T b m g : Nat) (a2 : Option Addr) (k2 : Nat) (ao : Option Addr) (co : Nat) (ov : Value) (t : TbD) (iv : Value) (W : World) : Prop := ∃ k : Nat, iv = .int .i64 (k : Int) ∧ k ≤ 2 ∧ SdSt w T b m g a2 k2 ao co ov t (seenL t k) W
def SdIn (w : World) (T b m g : Nat) (a2 : Option Addr) (k2 : Nat) (ao : Option Addr) (co : Nat) (ov : Value) (t : TbD) (P l : List JobD) (iv : Value) (W : World) : Prop := ∃ k : Nat, iv = .int .i64 (k : Int) ∧ k ≤ l.length ∧ SdSt w T b m g a2 k2 ao co ov t (P ++ l.take k) W
def SdMid (w1 : World) (t : TbD) (ao : Option Addr) (no co : Nat) (v43 v44 v45 : Value) (w' : World) : Prop :=
  ∃ g a2 k2, v43 = .slice (some ⟨g, 0, none⟩) 2 2 ∧ v44 = .int .i64 2 ∧ v45 = .int .i64 0 ∧ Blk w' g [.slice a2 t.active.length k2, .slice ao no co] 43 ∧ CS w' a2 k2 6 (t.active.flatMap jobV) ∧ Below w1.heap.size w1 w' ∧ w1.heap.size ≤ g ∧ ∀ x, a2 = some x → w1.heap.size ≤ x.block

set_option maxRecDepth 100000 in
set_option maxHeartbeats 20000000 in
theorem sound_calls (w : World) (B T b : Nat) (ov : Value) (t : TbD) (h : IsTb w B T b ov t) (hf : Fit t) :
    Calls Tryd.prog 77 #[.pointer (some ⟨T, 0, none⟩)] w fun e w' => e = .returned (.bool true) ∧ Below w.heap.size w w' := by
  have hmm := @run_makeMap Tryd.prog
  have H := hid h
  have HS := hid (hf.sd h.ok)
  have HF := hid hf
  have T0 := hid h.own
  have few := hid h.ok.few
  clear h hf
  go_enter Tryd.func77, Tryd.ntmps77
  have hlen : (t.last.flatMap repV).length = 48 := by rw [flat_length repV 6 (fun _ => rfl), H.out.ok.last]
  have HR := hid (show w.rangeAt T 4 (t.last.flatMap repV) from by
    have := blk_part T0.out 4 48
    rw [show ((tbV t b ov).drop 4).take 48 = t.last.flatMap repV from by
      show (t.last.flatMap repV).take 48 = _
      rw [List.take_of_length_le (by omega)]] at this
    exact this)
  have HS8 := hid (size_reps.trans (by rw [hlen]) : (Tryd.prog.info? 73).map (·.size) = some (t.last.flatMap repV).length)
  have L8 := hid H.out.ok.last
  clear hlen
  go_upto_region 2 with (refine wpList_load_row6 (o := ⟨some 15, _, _, _, _, _⟩) 73 (.tmp 14) rfl rfl T 4 (t.last.flatMap repV) rfl HR.out row_reps HS8.out ?_)
  clear HR HS8
  go_loopw [16] (fun iv wr => SdRel1 w iv wr) (fun iv _ => 8 - (intOf iv).toNat)
  case atStart => exact ⟨0, rfl, Nat.zero_le _, Below.refl _ _⟩
  case round =>
    obtain ⟨k, rfl, hk, hp⟩ := hrel
    have P := hid hp
    clear hp
    by_cases hkl : k < 8
    · have hkl' : (k : Int) < 8 := by omega
      have hk8 : k < t.last.length := by have := L8.out; omega
      obtain ⟨r, hr⟩ : ∃ r, t.last[k] = r := ⟨_, rfl⟩
      have HX := hid (show (.agg ((t.last.flatMap repV).toArray.extract (k * 6) (k * 6 + 6)) : Value) = .agg (repV r).toArray from by rw [extract_reps t.last k hk8, hr])
      have HL := hid (HF.out.lst k r (by rw [List.getElem?_eq_getElem hk8, hr]))
      have HKL := hid hkl
      clear hr hk8
      go_upto_region 4 with (first | (refine wpList_index_reps (o := ⟨some 18, _, _, _, _, _⟩) (.tmp 15) (.tmp 16) rfl rfl (t.last.flatMap repV).toArray k HKL.out rfl rfl _ HX.out ?_) | (refine wpListQ_alloc (o := ⟨some 4, _, _, _, _, _⟩) 30 rfl rfl zrep 6 info_rep ?_) | (refine wpListQ_store_new (o := ⟨none, _, 0, _, _, _⟩) rfl 30 (.tmp 4) (.tmp 18) rfl zrep (repV r).toArray rfl rfl size_rep rfl (all_oneCell_toArray (repV_one _)) ?_))
      obtain ⟨z, hz⟩ : ∃ z, wr.heap.size = z := ⟨_, rfl⟩
      have b1 := below_alloc wr (.cells (repV r).toArray 30)
      have P1 := hid (P.out.trans (b1.mono P.out.size))
      have K1 := hid (show Blk (wr.alloc (.cells (repV r).toArray 30)) z (repV r) 30 from by rw [← hz]; exact blk_alloc wr (repV r) 30)
      rw [hz]
      generalize (wr.alloc (.cells (repV r).toArray 30)) = x1 at P1 K1 ⊢
      clear hz P HX hkl b1
      have c1 := K1.out.get 1 rfl
      have c3 := K1.out.get 3 rfl
      have T1 := hid (H.out.own.below P1.out)
      have s1 := T1.out.get 1 rfl
      have lz := K1.out.lt
      have lT := T1.out.lt
      have hcase : (((r.seq : Int) == 0) = true ∧ ((r.job : Int) == 0) = true ∧ ¬ ((t.spent : Int) < (r.job : Int))) ∨ (((r.seq : Int) == 0) = false ∧ ((r.job : Int) == 0) = false ∧ ¬ ((t.spent : Int) < (r.job : Int))) := by
        rcases HL.out with rfl | ⟨_, _, _, _, h1, h2, h3⟩
        · exact .inl ⟨rfl, rfl, by show ¬ ((t.spent : Int) < ((0 : Nat) : Int)); omega⟩
        · exact .inr ⟨by simp; omega, by simp; omega, by omega⟩
      rcases hcase with ⟨q1, q2, q3⟩ | ⟨q1, q2, q3⟩
      all_goals
        go_quiet (fail)
        have P2' := hid (below_drewN P1.out nq)
        clear c1 c3 s1 lz lT T1 K1 P1 HL
        generalize x1.drewN nq = x2 at P2' ⊢
        go_wp2_with fail
        have hkl := HKL.out
        have R : SdRel1 w (.int .i64 ((k : Int) + 1)) x2 := ⟨k + 1, by simp, hkl, P2'.out⟩
        refine ⟨?_, ?_⟩
        · first | exact R | ((repeat apply Exists.intro); refine ⟨R, ?_⟩; and_intros <;> rfl)
        · simp [intOf]
          omega
    · have hkl' : ¬ ((k : Int) < 8) := by omega
      clear hkl
      go_upto_region 8 with fail
      obtain ⟨m, hm⟩ : ∃ m, wr.heap.size = m := ⟨_, rfl⟩
      have bm := below_alloc wr (.map #[] 0)
      have S0 := hid (show SeenAt w m [] (wr.alloc (.map #[] 0)) from ⟨P.out.trans (bm.mono P.out.size), by rw [← hm]; exact P.out.size, 0, .map [], Nat.zero_le _, by rw [← hm]; exact World.ownsMap_made wr Tryd.prog 28 unitR, SeenIs.nil⟩)
      rw [hm]
      clear hm bm hmm P L8
      generalize (wr.alloc (.map #[] 0)) = w1 at S0 ⊢
      have HA := hid fun (W : World) (hW : Below w1.heap.size w1 W) => active_calls W B T b ov t ((H.out.below S0.out.1).below hW)
      have lT := H.out.own.lt
      have c3 := (T0.out.below S0.out.1).get 3 rfl
      obtain ⟨ao, no, co, eov, hno, hnco, hcso⟩ := (H.out.over.below S0.out.1).cs
      subst eov
      have HNo := hid hno
      have HCo := hid hcso
      clear hno hnco hcso
      go_cut [43, 44, 45] from 36 to 46 (fun v43 v44 v45 w' => SdMid w1 t ao no co v43 v44 v45 w')
      case first =>
        go_region_with (go_at_call 17; refine (HA.out _ (below_drewN (Below.refl _ _) _)).mono ?_; rintro e w2 ⟨v2, rfl, hr, hb⟩; obtain ⟨a2, k2, rfl⟩ := row_slice hr; have R2 := hid hr; have B2 := hid ((below_drewN (Below.refl _ w1) _).trans hb); have c32 := (T0.out.below (S0.out.1.trans (B2.out.mono S0.out.1.size))).get 3 rfl; clear hr hb)
        all_goals
          go_wp2_with fail
          go_meet
          have R9 : SdMid w1 t ao no co (.slice (some ⟨w2.heap.size, 0, none⟩) 2 2) (.int .i64 2) (.int .i64 0) (w2.alloc (.cells #[.slice a2 t.active.length k2, .slice ao no co] 43)) := by
            have ba := below_alloc w2 (.cells #[.slice a2 t.active.length k2, .slice ao no co] 43)
            obtain ⟨a', n', c', e1, _, _, hcs⟩ := R2.out.cs
            obtain ⟨rfl, rfl, rfl⟩ : a2 = a' ∧ t.active.length = n' ∧ k2 = c' := by simpa using e1
            exact ⟨_, a2, k2, rfl, rfl, rfl, blk_alloc w2 [.slice a2 t.active.length k2, .slice ao no co] _, hcs.chg (Chg.of_below [] ba) (by simp), (show Below w1.heap.size w1 w2 from B2.out).trans (ba.mono B2.out.size), B2.out.size, fun x hx => (R2.out.ownBlock x.block (by rw [hx]; simp [Value.ownBlock])).1⟩
          first | exact R9 | ((repeat apply Exists.intro); refine ⟨R9, ?_⟩; and_intros <;> rfl)
      case rest =>
        obtain ⟨g, a2, k2, rfl, rfl, rfl, hK, hC, hB, hG1, hA1⟩ := hcut
        have K3 := hid hK
        have CA := hid hC
        have S3 := hid (S0.out.below hB)
        have CO := hid (HCo.out.chg (Chg.of_below [] hB) (by simp))
        have T3 := hid ((T0.out.below S0.out.1).below hB)
        have NG := hid (show g ≠ m from by have := hG1; have := S0.out.2.2; obtain ⟨nn, D, _, h4, _⟩ := S0.out.2.2; have := h4.lt; omega)
        have NA := hid (show ∀ x, a2 = some x → x.block ≠ m from fun x hx => by obtain ⟨nn, D, _, h4, _⟩ := S0.out.2.2; have := h4.lt; have := hA1 x hx; omega)
        clear hK hC hB HA c3 lT S0 HCo hG1 hA1
        have lw := H.out.own.lt
        have hmw := S3.out.2.1
        have St := hid (show SdSt w T b m g a2 k2 ao co (.slice ao no co) t [] wc from ⟨S3.out, by have h := K3.out; rw [← HNo.out] at h; exact h, CA.out, CO.out, T3.out, NG.out, by omega, NA.out, fun x hx => by have := (H.out.over.own (k := x.block) (by rw [hx]; simp [Value.ownBlock])).2.1; omega⟩)
        have HP := hid (show (t.active ++ t.over).Pairwise (fun a b => a.id ≠ b.id) from HF.out.one)
        have HSP := hid H.out.ok.spent
        have HKK := hid fun (j : JobD) (hj : j ∈ t.active ++ t.over) => keyOf32 (show j.id < 4294967296 from by have := (HS.out j hj).id; have := H.out.ok.spent; omega)
        have HTi := hid fun (j : JobD) (hj : j ∈ t.active ++ t.over) => (show j.tier < 256 ∧ 0 ≤ j.credit ∧ j.k ≤ 16 ∧ j.state < 256 from by
          rcases List.mem_append.1 hj with hm | hm
          · have := H.out.ok.rng j (.inl hm); have := H.out.ok.st j hm; omega
          · have := H.out.ok.rng j (.inr hm); have := H.out.ok.ost j hm; omega)
        have HND := hid H.out.ok.nodes
        clear S3 K3 CA CO T3 lw hmw NG NA HF
        go_wp2_with fail
        go_loopw [45] (fun iv W => SdOut w T b m g a2 k2 ao co (.slice ao no co) t iv W) (fun iv _ => 2 - (intOf iv).toNat)
        case atStart => exact ⟨0, rfl, by omega, St.out⟩
        case round =>
          clear St
          obtain ⟨k1, rfl, hk1, hSt⟩ := hrel
          have St := hid hSt
          clear hSt
          obtain ⟨wo, hwo⟩ : ∃ wo : World, wo = wr := ⟨_, rfl⟩
          subst hwo
          by_cases hk1l : k1 < 2
          · have hk1l' : (k1 : Int) < 2 := by omega
            obtain ⟨l, P, al, cl, hl⟩ : ∃ (l P : List JobD) (al : Option Addr) (cl : Nat), seenL t k1 = P ∧ seenL t (k1 + 1) = P ++ l ∧ [Value.slice a2 t.active.length k2, .slice ao t.over.length co][k1]? = some (.slice al l.length cl) ∧ (∀ j ∈ P ++ l, j ∈ t.active ++ t.over) ∧ (P ++ l).Pairwise (fun a b => a.id ≠ b.id) ∧ P.length ≤ 64 ∧ l.length ≤ 64 ∧ ∀ W L, SdSt w T b m g a2 k2 ao co (.slice ao no co) t L W → CS W al cl 6 (l.flatMap jobV) := by
              have hp := HP.out
              rcases (by omega : k1 = 0 ∨ k1 = 1) with rfl | rfl
              · exact ⟨t.active, [], a2, k2, rfl, rfl, rfl, fun j hj => List.mem_append_left _ hj, (List.pairwise_append.1 hp).1, Nat.zero_le _, few.out.1, fun W L h => h.act⟩
              · exact ⟨t.over, t.active, ao, co, rfl, rfl, rfl, fun j hj => hj, hp, few.out.1, few.out.2, fun W L h => h.over⟩
            obtain ⟨e1, e2, e3, h4, h5, hP64, h64, h6⟩ := hl
            have E2 := hid e2
            have H4 := hid h4
            have H5 := hid h5
            have H6 := hid h6
            rw [e1] at St
            have c45 : wo.cell? ⟨g, k1, none⟩ = some (.slice al l.length cl) := by rw [St.out.two.cell]; exact e3
            have HK1 := hid hk1l
            have l64 : (l.length : Int) ≤ 64 := by omega
            clear e1 e2 e3 h4 h5 h6 hk1l
            go_wp2_with fail
            go_loopw [51] (fun iv W => SdIn w T b m g a2 k2 ao co (.slice ao no co) t P l iv W) (fun iv _ => l.length - (intOf iv).toNat)
            case atStart => exact ⟨0, rfl, Nat.zero_le _, by rw [List.take_zero, List.append_nil]; exact St.out⟩
            case round =>
              clear St c45
              obtain ⟨k, rfl, hk, hSt⟩ := hrel
              have St := hid hSt
              clear hSt
              by_cases hkl : k < l.length
              · have hkl' : (k : Int) < (l.length : Int) := by omega
                obtain ⟨bj, oj, rfl, hc⟩ := cs_row jobV_length (H6.out _ _ St.out) hkl (by decide)
                obtain ⟨j, hj⟩ : ∃ j, l[k] = j := ⟨_, rfl⟩
                rw [hj] at hc
                have HR := hid (show wr.rangeAt bj (oj + k * 6) (jobV j) from hc)
                have hjm : j ∈ P ++ l := List.mem_append_right _ (hj ▸ List.getElem_mem hkl)
                have HJ := hid (HS.out j (H4.out j hjm))
                have HK := hid (HKK.out j (H4.out j hjm))
                have HT := hid (HTi.out j (H4.out j hjm))
                have HTk := hid (show l.take (k + 1) = l.take k ++ [j] from by rw [List.take_succ_eq_append_getElem hkl, hj])
                have HNo := hid (show (P ++ l.take k).any (fun x => x.id == j.id) = false from by
                  rw [List.any_eq_false]
                  intro x hx
                  have h5 := H5.out
                  rw [show P ++ l = (P ++ l.take k) ++ l.drop k from by rw [List.append_assoc, List.take_append_drop]] at h5
                  rw [List.pairwise_append] at h5
                  have := h5.2.2 x hx j (by rw [List.drop_eq_getElem_cons hkl, hj]; exact List.mem_cons_self ..)
                  simpa using this)
                have HKL := hid hkl
                have HLe := hid (show (P ++ l.take k).length ≤ 128 from by
                  have h1 := few.out
                  have h2 : (P ++ l).length ≤ (t.active ++ t.over).length ∨ True := .inr trivial
                  have h3 : l.length ≤ 64 := h64
                  have h4 : P.length ≤ 64 := hP64
                  rw [List.length_append, List.length_take]; omega)
                clear hc hj hjm
                go_upto_region 14 with (first | (refine wpList_load_row6 (o := ⟨some 54, _, _, _, _, _⟩) 37 (.tmp 53) rfl rfl bj (oj + k * 6) (jobV j) rfl HR.out row_job size_job ?_) | (refine wpListQ_alloc (o := ⟨some 9, _, _, _, _, _⟩) 37 rfl rfl zjob 6 info_job ?_) | (refine wpListQ_store_new (o := ⟨none, _, 0, _, _, _⟩) rfl 37 (.tmp 9) (.tmp 54) rfl zjob (jobV j).toArray rfl rfl size_job rfl (all_oneCell_toArray (jobV_one _)) ?_))
                obtain ⟨z, hz⟩ : ∃ z, wr.heap.size = z := ⟨_, rfl⟩
                have b1 := below_alloc wr (.cells (jobV j).toArray 37)
                have S1 := hid (St.out.below b1)
                have K1 := hid (show Blk (wr.alloc (.cells (jobV j).toArray 37)) z (jobV j) 37 from by rw [← hz]; exact blk_alloc wr (jobV j) 37)
                rw [hz]
                have Zm := hid (show z ≠ m from by obtain ⟨nn, D, _, h4, _⟩ := St.out.seen.2.2; have := h4.lt; omega)
                clear St HR b1 hz
                generalize (wr.alloc (.cells (jobV j).toArray 37)) = x1 at S1 K1 ⊢
                obtain ⟨nn, D, hnn, hD, hSee⟩ := S1.out.seen.2.2
                have HD := hid hD
                have HSee := hid hSee
                have HH := hid (show Maps.has D (idK j.id) = false from by rw [hSee.has]; exact HNo.out)
                have HA := hid (hSee.unit j.id)
                have Hnn := hid (show nn < maxLen from by have := HLe.out; unfold maxLen; omega)
                have HNN := hid hnn
                clear hnn hD hSee
                have c0 := K1.out.get 0 rfl
                go_upto_region 15 with (first | (at_lookup; go_must (refine wpList_lookup_own_ok _ rfl _ _ 137 rfl 28 106 keyed32 Tryd.underlying137 unitR (zeroUnit _) (.agg []) [] unitR_mk m _ D rfl HD.out (.int .u32 (j.id : Int)) (idK j.id) rfl HK.out ?_; intro v ps hv; rw [HA.out] at hv; obtain rfl := unitR_inv hv; rw [HH.out])))
                have b2 := below_alloc x1 (.cells #[] 106)
                have S2 := hid (S1.out.below b2)
                have K2 := hid (K1.out.below b2)
                have HD2 := hid (owns_block HD.out (b2.block m HD.out.lt))
                clear c0 S1 K1 HD b2
                generalize (x1.alloc (.cells #[] 106)) = x2 at S2 K2 HD2 ⊢
                have c0 := K2.out.get 0 rfl
                have c1 := K2.out.get 1 rfl
                have c2 := K2.out.get 2 rfl
                have c3 := K2.out.get 3 rfl
                have c4 := K2.out.get 4 rfl
                have c5 := K2.out.get 5 rfl
                have s0 := S2.out.own.get 0 rfl
                have s1 := S2.out.own.get 1 rfl
                have lz := K2.out.lt
                have lT := S2.out.own.lt
                have g0 : ((j.id : Int) == 0) = false := by have := HJ.out.id; simp; omega
                have g1 : ¬ ((t.spent : Int) < (j.id : Int)) := by have := HJ.out.id; omega
                have g2 : ¬ ((3 : Int) < (j.tier : Int)) := by have := HJ.out.tier; omega
                have g3 : ¬ (j.k < 1) := by have := HJ.out.k; omega
                have g4 : ¬ (t.nodes < j.k) := by have := HJ.out.k; omega
                have g5 : ¬ (j.w < 1) := by have := HJ.out.w; omega
                have g6 : ¬ ((10000 : Int) < j.w) := by have := HJ.out.w; omega
                have g7 : ¬ (j.w < j.credit) := by have := HJ.out.credit; omega
                have hcase : (((j.state : Int) == 4) = true ∧ (j.credit != j.w) = false) ∨ ((j.state : Int) == 4) = false := by
                  by_cases h4 : j.state = 4
                  · exact .inl ⟨by simp; omega, by have := HJ.out.done h4; simp [this]⟩
                  · exact .inr (by simp; omega)
                rcases hcase with ⟨g8, g9⟩ | g8
                all_goals
                  go_quiet (fail)
                  have b3 := below_drewN (Below.refl x2.heap.size x2) nq
                  have S3 := hid (S2.out.below b3)
                  have K3 := hid (K2.out.below b3)
                  have HD3 := hid (owns_block HD2.out (b3.block m HD2.out.lt))
                  clear c0 c1 c2 c3 c4 c5 s0 s1 lz lT g0 g1 g2 g3 g4 g5 g6 g7 g8 S2 K2 HD2 b3
                  generalize x2.drewN nq = x3 at S3 K3 HD3 ⊢
                  have c0 := K3.out.get 0 rfl
                  go_wp2_with (at_mapUpdate; go_must (refine wpList_mapUpdate_in _ rfl _ _ _ 137 rfl 28 106 keyed32 Tryd.underlying137 unitR m _ D rfl HD3.out Hnn.out (.int .u32 (j.id : Int)) (.agg #[]) (idK j.id) rfl rfl HK.out (.agg []) [] unitR_mk ?_; intro w9 hown9 hturn9))
                  have C9 : Chg [m] x3 w9 := by simpa using chg_grown hturn9.grown
                  have hkl := HKL.out
                  have R : SdIn w T b m g a2 k2 ao co (.slice ao no co) t P l (.int .i64 ((k : Int) + 1)) w9 := ⟨k + 1, by simp, hkl, by
                    have h0 := S3.out.seen
                    rw [HTk.out, ← List.append_assoc]
                    exact S3.out.put C9 ⟨h0.1.trans (C9.below h0.1.size (by intro q hq; simp at hq; subst hq; exact h0.2.1)), h0.2.1, nn + 1, _, by have := HNN.out; rw [List.length_append, List.length_singleton]; omega, hown9, HSee.out.put j⟩⟩
                  refine ⟨?_, ?_⟩
                  · first | exact R | ((repeat apply Exists.intro); refine ⟨R, ?_⟩; and_intros <;> rfl)
                  · simp [intOf]
                    omega
              · have hkl' : ¬ ((k : Int) < (l.length : Int)) := by omega
                clear hkl
                have hke : k = l.length := by omega
                go_wp2_with fail
                have R : SdOut w T b m g a2 k2 ao co (.slice ao no co) t (.int .i64 ((k1 : Int) + 1)) wr := ⟨k1 + 1, by simp, HK1.out, by rw [E2.out]; have h := St.out; rw [hke, List.take_length] at h; exact h⟩
                refine ⟨?_, ?_⟩
                · first | exact R | ((repeat apply Exists.intro); refine ⟨R, ?_⟩; and_intros <;> rfl)
                · have := HK1.out
                  simp [intOf]
                  omega
          · have hk1l' : ¬ ((k1 : Int) < 2) := by omega
            clear hk1l
            go_wp2_with fail
            go_ret
            exact ⟨rfl, St.out.seen.1⟩
end Go.Proofs.YtombndhjoaaaiaaDoor

/- The walks of layer 16: a table is read out of its own bytes; asked: that it is whole. -/
namespace Go.Proofs.YtombndhjoaaaiaaDoor
open Go.RowKit Go.Quad _root_.Quad _root_.Quad.Ink

theorem must_calls (w : World) : Calls Tryd.prog 75 #[.bool true] w fun e w' => e = .returned (.tuple #[]) ∧ w' = w := by
  go_enter Tryd.func75, Tryd.ntmps75
  go_wp2_with fail
  refine bodyPost_end (results_none rfl _ _ _) rfl ?_
  exact ⟨rfl, rfl⟩
/-- a table that is read, so far: the eye at g stands before r -/
structure RdO (w : World) (B T b g : Nat) (ov : Value) (u : TbD) (r : List UInt8) (W : World) : Prop where
  isT : IsTb W B T b ov u
  ovg : ∀ k, ov.ownBlock = some k → g < k
  eye : EyeAt W w.heap.size g r false
  chg : Chg [T, b] w W
  ge : w.heap.size ≤ g
def RdI (w : World) (B T b g : Nat) (u : TbD) (r : List UInt8) (W : World) : Prop := ∃ ov, RdO w B T b g ov u r W
theorem RdO.below {w W W' : World} {B T b g : Nat} {ov : Value} {u : TbD} {r : List UInt8} (h : RdO w B T b g ov u r W) (hb : Below W.heap.size W W') : RdO w B T b g ov u r W' :=
  ⟨h.isT.below hb, h.ovg, h.eye.below hb, h.chg.trans (Chg.of_below _ hb), h.ge⟩
theorem RdI.below {w W W' : World} {B T b g : Nat} {u : TbD} {r : List UInt8} (h : RdI w B T b g u r W) (hb : Below W.heap.size W W') : RdI w B T b g u r W' := by
  obtain ⟨ov, h⟩ := h
  exact ⟨ov, h.below hb⟩
theorem RdO.look {w W W' : World} {B T b g : Nat} {ov : Value} {u : TbD} {r r' : List UInt8} (h : RdO w B T b g ov u r W) (hT : T < w.heap.size ∧ b < w.heap.size) (he : EyeAt W' w.heap.size g r' false) (hc : Chg [g] W W') : RdO w B T b g ov u r' W' := by
  have hg := h.ge
  refine ⟨h.isT.chg hc (fun k hk hm => ?_), h.ovg, he, h.chg.newer hc (by simpa using hg), hg⟩
  simp at hm
  subst hm
  rcases List.mem_cons.1 hk with rfl | hk
  · omega
  · rcases List.mem_cons.1 hk with rfl | hk
    · omega
    · have := h.ovg k (by simpa using hk); omega
theorem RdI.look {w W W' : World} {B T b g : Nat} {u : TbD} {r r' : List UInt8} (h : RdI w B T b g u r W) (hT : T < w.heap.size ∧ b < w.heap.size) (he : EyeAt W' w.heap.size g r' false) (hc : Chg [g] W W') : RdI w B T b g u r' W' := by
  obtain ⟨ov, h⟩ := h
  exact ⟨ov, h.look hT he hc⟩
theorem RdI.at {w W : World} {B T b g : Nat} {u : TbD} {r : List UInt8} (h : RdI w B T b g u r W) : EyeAt W w.heap.size g r false := by
  obtain ⟨ov, h⟩ := h
  exact h.eye
/-- behind an append to those that are over, ahead of its store -/
structure RdA (w : World) (B T b g : Nat) (ov : Value) (u : TbD) (r : List UInt8) (j : JobD) (v : Value) (W : World) : Prop where
  own : Blk W T (tbV u b ov) 75
  map : ∃ D, W.ownsMap Tryd.prog 28 jobR b u.active.length D ∧ MapIs D u.active
  over : JR W B v (u.over ++ [j])
  vg : ∀ k, v.ownBlock = some k → g < k
  eye : EyeAt W w.heap.size g r false
  chg : Chg [T, b] w W
  ge : (B ≤ T ∧ B ≤ b) ∧ w.heap.size ≤ g
theorem RdO.append {w w5 W0 : World} {B T b g : Nat} {ov : Value} {u : TbD} {r : List UInt8} {o : Oper} {ρ : Operand → Value} {K : Value → World → Prop} (s x : Operand) (h : RdO w B T b g ov u r w5) (hW : Below w5.heap.size w5 W0)
    (hT : T < w.heap.size ∧ b < w.heap.size) (j : JobD) (c : Nat) (ho : o.op = .call { callee := .builtin .append, args := #[s, x], argTypes := #[43, 43] }) (hs : ρ s = ov) (hx : ρ x = .slice (some ⟨W0.heap.size, 0, none⟩) 1 c)
    (hl : u.over.length ≤ 64) (hK : ∀ a4 n4 c4 w8, RdA w B T b g ov u r j (.slice a4 n4 c4) w8 → K (.slice a4 n4 c4) w8) : OpOk Tryd.prog o ρ (W0.alloc (.cells (jobV j).toArray 37)) K := by
  have h1 := (h.below hW).below (below_alloc W0 (.cells (jobV j).toArray 37))
  have hlt := h1.isT.lt
  have hne := h1.isT.ne
  have hgT : g < (W0.alloc (.cells (jobV j).toArray 37)).heap.size := by obtain ⟨_, _, he⟩ := h1.eye; exact he.own.lt
  have hBT : B ≤ T := (hlt T (by simp [tbS])).1
  have hTl := (hlt T (by simp [tbS])).2
  refine opOk_appendJ s x ho h1.isT.over (by omega) (by omega) j ⟨W0.heap.size, 0, none⟩ c (fun i v hv => by rw [Addr.add_mid, Nat.zero_add]; exact (blk_alloc W0 (jobV j) 37).get i hv) hs hx fun v' w' h2 h3 h4 => ?_
  obtain ⟨a4, n4, c4, e4, _⟩ := h2.cs
  subst e4
  refine hK a4 n4 c4 w' ⟨h1.isT.own.keep h3 (by intro hm; exact hne.2.1 (by simpa using hm)), ?_, h2, fun k hk => ?_, h1.eye.chg h3 (fun k hk => .inr (h.ovg k (by simpa using hk))), h1.chg.newer h3 (fun k hk => by have := h.ovg k (by simpa using hk); have := h.ge; omega), h1.isT.ge, h.ge⟩
  · obtain ⟨D, hD, hM⟩ := h1.isT.map
    exact ⟨D, owns_chg hD h3 (by intro hm; exact hne.2.2 (by simpa using hm)), hM⟩
  · rcases h4 with h4 | ⟨h4, _⟩
    · exact h.ovg k (by rw [← h4]; exact hk)
    · rw [h4] at hk; simp only [Option.some.injEq] at hk; omega
theorem RdA.store {w W : World} {B T b g : Nat} {ov : Value} {u u' : TbD} {r : List UInt8} {j : JobD} {v : Value} (h : RdA w B T b g ov u r j v W) (hT : T < w.heap.size ∧ b < w.heap.size) (hb : T ≠ b) (hu : u' = { u with over := u.over ++ [j] }) (hok : u'.Ok) : RdI w B T b g u' r (W.setCell ⟨T, 3, none⟩ v) := by
  have cS := chg_setCell W T 3 v
  have hg := h.ge
  obtain ⟨D, hD, hM⟩ := h.map
  refine ⟨v, ⟨by rw [hu]; exact h.own.set 3 v, ⟨D, by rw [hu]; exact owns_chg hD cS (by simp; exact hb.symm), by rw [hu]; exact hM⟩, by rw [hu]; exact h.over.chg cS (by intro k hk hm; simp at hm; subst hm; have := h.vg k hk; omega), hg.1, hok⟩, h.vg, h.eye.chg cS (by intro k hk; simp at hk; subst hk; exact .inl hT.1), h.chg.trans (cS.mono (by intro k hk; simp at hk; simp [hk])), hg.2⟩
theorem IsTb.spentSet {w : World} {B T b : Nat} {n : Int} {t : TbD} (h : IsTb w B T b (.slice none 0 0) (newT n)) (ht : t.Ok) (hn : n = t.nodes) :
    IsTb (w.setCell ⟨T, 1, none⟩ (.int .u32 (t.spent : Int))) B T b (.slice none 0 0) (midT t 0 0 0) := by
  have cS := chg_setCell w T 1 (.int .u32 (t.spent : Int))
  have hm : midT t 0 0 0 = ⟨t.nodes, t.spent, [], [], List.replicate 8 repZ⟩ := by simp [midT]
  have hne := h.ne
  obtain ⟨D, hD, hM⟩ := h.map
  have hk := h.own.set 1 (.int .u32 (t.spent : Int))
  refine ⟨by rw [hm]; subst hn; exact hk, ⟨D, by rw [hm]; exact owns_chg hD cS (by simp; exact hne.1.symm), by rw [hm]; exact hM⟩, by rw [hm]; exact JR.nil _ _, h.ge, midT_ok ht (by omega)⟩
def RdL1 (w : World) (B T b g : Nat) (t : TbD) (R : List UInt8) (iv : Value) (W : World) : Prop := ∃ k : Nat, iv = .int .i64 (k : Int) ∧ k ≤ t.active.length ∧ RdI w B T b g (midT t k 0 0) ((t.active.drop k).flatMap jobB ++ R) W
def RdL2 (w : World) (B T b g : Nat) (t : TbD) (R : List UInt8) (iv : Value) (W : World) : Prop := ∃ k : Nat, iv = .int .i64 (k : Int) ∧ k ≤ t.over.length ∧ RdI w B T b g (midT t t.active.length k 0) ((t.over.drop k).flatMap jobB ++ R) W
def RdL3 (w : World) (B T b g : Nat) (t : TbD) (iv : Value) (W : World) : Prop := ∃ k : Nat, iv = .int .i64 (k : Int) ∧ k ≤ 8 ∧ RdI w B T b g (midT t t.active.length t.over.length k) ((t.last.drop k).flatMap repB) W

theorem mid_active (t : TbD) {k : Nat} (hk : k < t.active.length) : (midT t (k + 1) 0 0).active = (midT t k 0 0).active ++ [pj0 t.active[k]] := by
  show (t.active.map pj0).take (k + 1) = (t.active.map pj0).take k ++ [pj0 t.active[k]]
  rw [List.take_succ_eq_append_getElem (by rw [List.length_map]; exact hk), List.getElem_map]
theorem mid_active_ne {t : TbD} (ht : t.Ok) {k : Nat} (hk : k < t.active.length) : ∀ x ∈ (midT t k 0 0).active, x.id ≠ (pj0 t.active[k]).id := by
  intro x hx
  have h := (midT_ok ht (a := k + 1) (o := 0) (l := 0) (by omega)).rise
  rw [mid_active t hk, List.pairwise_append] at h
  have := h.2.2 x hx _ (List.mem_singleton.2 rfl)
  omega
/-- a job is laid into the map -/
theorem RdI.put {w W W' : World} {B T b g : Nat} {t : TbD} {k nn : Nat} {r : List UInt8} {D : DataW Unit} (h : RdI w B T b g (midT t k 0 0) r W) (hT : T < w.heap.size ∧ b < w.heap.size) (ht : t.Ok) (hk : k < t.active.length)
    (hM : MapIs D (midT t k 0 0).active) (ho : W'.ownsMap Tryd.prog 28 jobR b nn (D.put (idK (pj0 t.active[k]).id) (jobDat (pj0 t.active[k])))) (hc : Chg [b] W W') : RdI w B T b g (midT t (k + 1) 0 0) r W' := by
  obtain ⟨ov, ⟨h1, h2, h3, h4, h5⟩⟩ := h
  have hne := h1.ne
  have hM' := hM.put (mid_active_ne ht hk)
  rw [← mid_active t hk] at hM'
  refine ⟨ov, ⟨h1.own.keep hc (by simp; exact hne.1), ⟨_, ?_, hM'⟩, h1.over.chg hc (by intro q hq hm; simp at hm; subst hm; exact hne.2.2 hq), h1.ge, midT_ok ht (by omega)⟩, h2, h3.chg hc (by intro q hq; simp at hq; subst hq; exact .inl hT.2), h4.trans (hc.mono (by intro q hq; simp at hq; simp [hq])), h5⟩
  have := owns_tight ho
  rw [hM'.size] at this
  exact this

theorem mid_over (t : TbD) (n : Nat) {k : Nat} (hk : k < t.over.length) : midT t n (k + 1) 0 = { midT t n k 0 with over := (midT t n k 0).over ++ [t.over[k]] } := by
  show _ = (⟨_, _, _, t.over.take k ++ [t.over[k]], _⟩ : TbD)
  rw [← List.take_succ_eq_append_getElem hk]
  rfl

theorem RdI.other {w W : World} {B T b g z : Nat} {u : TbD} {r : List UInt8} {cs : List Value} (h : RdI w B T b g u r W) (hT : T < w.heap.size ∧ b < w.heap.size) (hz : Blk W z cs 30) (hw : w.heap.size ≤ z) (hg : g < z) (i : Nat) (v : Value) : RdI w B T b g u r (W.setCell ⟨z, i, none⟩ v) := by
  obtain ⟨ov, h⟩ := h
  have cS := chg_setCell W z i v
  refine ⟨ov, h.isT.chg cS (fun k hk hm => ?_), h.ovg, h.eye.chg cS (by intro k hk; simp at hk; subst hk; exact .inr hg), h.chg.newer cS (by intro k hk; simp at hk; subst hk; exact hw), h.ge⟩
  simp at hm
  subst hm
  rcases List.mem_cons.1 hk with rfl | hk
  · omega
  · rcases List.mem_cons.1 hk with rfl | hk
    · omega
    · obtain ⟨_, _, cur, hb⟩ := h.isT.over.own (by simpa using hk)
      exact kind_ne hz hb (by decide) rfl
theorem RdI.newLast {w W W' : World} {B T b g : Nat} {u u' : TbD} {r : List UInt8} (h : RdI w B T b g u r W) (hT : T < w.heap.size ∧ b < w.heap.size) (hk : ∀ ov, IsTb W B T b ov u → IsTb W' B T b ov u' ∧ Chg [T] W W') : RdI w B T b g u' r W' := by
  obtain ⟨ov, h⟩ := h
  obtain ⟨h1, h2⟩ := hk ov h.isT
  exact ⟨ov, h1, h.ovg, h.eye.chg h2 (by intro k hk; simp at hk; subst hk; exact .inl hT.1), h.chg.trans (h2.mono (by intro k hk; simp at hk; simp [hk])), h.ge⟩
theorem mid_last_set {t : TbD} (ht : t.Ok) (n m : Nat) {k : Nat} (hk : k < 8) : midT t n m (k + 1) = { midT t n m k with last := (midT t n m k).last.set k (t.last.getD k repZ) } := by
  have hl := ht.last
  have hg : t.last.getD k repZ = t.last[k]'(by omega) := by rw [List.getD_eq_getElem?_getD, List.getElem?_eq_getElem (by omega)]; rfl
  show _ = (⟨_, _, _, _, (t.last.take k ++ List.replicate (8 - k) repZ).set k _⟩ : TbD)
  have hlen : (t.last.take k).length = k := by rw [List.length_take]; omega
  rw [List.set_append_right _ _ (by omega), hlen, Nat.sub_self, show 8 - k = (8 - (k + 1)) + 1 from by omega, List.replicate_succ, List.set_cons_zero, hg]
  show (⟨_, _, _, _, t.last.take (k + 1) ++ List.replicate (8 - (k + 1)) repZ⟩ : TbD) = _
  rw [List.take_succ_eq_append_getElem (by omega), List.append_assoc]
  rfl
theorem mid_last_same {t : TbD} (ht : t.Ok) (n m : Nat) {k : Nat} (hk : k < 8) (hz : t.last.getD k repZ = repZ) : midT t n m (k + 1) = midT t n m k := by
  have hl := ht.last
  have hg : t.last.getD k repZ = t.last[k]'(by omega) := by rw [List.getD_eq_getElem?_getD, List.getElem?_eq_getElem (by omega)]; rfl
  unfold midT
  rw [show 8 - k = (8 - (k + 1)) + 1 from by omega, List.replicate_succ, List.take_succ_eq_append_getElem (by omega), ← hg, hz, List.append_assoc]
  rfl

set_option maxRecDepth 100000 in
set_option maxHeartbeats 20000000 in
theorem tread_calls (w : World) (B T b : Nat) (t : TbD) (a : Option Addr) (cap : Nat) (h : IsTb w B T b (.slice none 0 0) (newT t.nodes)) (ht : t.Ok) (hf : Fit t) (hs : BS w a cap (bytesT t)) (hsT : ∀ x, a = some x → x.block ≠ T ∧ x.block ≠ b) :
    Calls Tryd.prog 56 #[.pointer (some ⟨T, 0, none⟩), .slice a (bytesT t).length cap] w fun e w' => e = .returned (.tuple #[]) ∧ ∃ ov, IsTb w' B T b ov (plainT t) ∧ (∀ k, ov.ownBlock = some k → w.heap.size ≤ k) ∧ Chg [T, b] w w' := by
  have hin := ok_in ht
  have hln : (bytesT t).length ≤ 140737488355328 := by
    have h1 := jobsB_len t.active hin.1 ht.few.1
    have h2 := jobsB_len t.over hin.2 ht.few.2
    have h3 := reps_len t.last fun r hr => ⟨(ht.lok r hr).seq, (ht.lok r hr).job⟩
    have h4 := numL_len10 (n := t.spent) (by have := ht.spent; omega)
    have h5 := ht.last
    unfold bytesT
    simp only [List.length_append]
    omega
  have hR := hid (read_calls a cap (bytesT t) w hs hln)
  have HB := hid (show bytesT t = numL t.spent ++ (numL t.active.length ++ (t.active.flatMap jobB ++ (numL t.over.length ++ (t.over.flatMap jobB ++ t.last.flatMap repB)))) from by unfold bytesT jobsB; simp only [List.append_assoc])
  have H := hid h
  have HT := hid ht
  have HF := hid hf
  have HS := hid hs
  have HsT := hid hsT
  have HI := hid hin
  have LT := hid (show T < w.heap.size ∧ b < w.heap.size from ⟨(h.lt T (by simp [tbS])).2, (h.lt b (by simp [tbS])).2⟩)
  have lsp : (t.spent : Int) ≤ 4294967295 := by have := ht.spent; omega
  have la : ¬ ((64 : Int) < (t.active.length : Int)) := by have := ht.few.1; omega
  have lo : ¬ ((64 : Int) < (t.over.length : Int)) := by have := ht.few.2; omega
  clear h ht hf hs hsT hin hln
  go_enter Tryd.func56, Tryd.ntmps56
  go_upto_region 1 with (go_at_call 71; go_loud (refine hR.out.mono ?_; rintro e w1 ⟨g, rfl, he, hb⟩; have J1 := hid (H.out.below hb); have E1 := hid he; have B1 := hid hb; clear he hb))
  have GE := hid (show w.heap.size ≤ g ∧ g < w1.heap.size from by obtain ⟨_, _, hx⟩ := E1.out; exact ⟨hx.ge, hx.own.lt⟩)
  rw [HB.out] at E1
  have e1 := hid (numE E1.out (show t.spent < 18446744073709551616 from by have := HT.out.spent; omega))
  clear hR
  have gT := hid (show ∀ k ∈ tbS T b (.slice none 0 0), k ∉ [g] from fun k hk hm => by
    simp [tbS, Value.ownBlock] at hk hm
    have := LT.out; have := GE.out
    rcases hk with rfl | rfl <;> omega)
  go_upto_region 2 with (go_at_call 72; go_loud (refine e1.out.mono ?_; rintro e w2 ⟨rfl, he, hc⟩; have J2 := hid (J1.out.chg hc gT.out); have E2 := hid he; have C2 := hid ((Chg.of_below [T, b] B1.out).newer hc (by simpa using GE.out.1)); have c1 := J2.out.own.get 1 rfl; have f1 := J2.out.own.free 1; clear he hc))
  clear c1 f1 e1 J1 E1 gT
  have cS := chg_setCell w2 T 1 (.int .u32 (t.spent : Int))
  have I3 := hid (show RdI w B T b g (midT t 0 0 0) (numL t.active.length ++ (t.active.flatMap jobB ++ (numL t.over.length ++ (t.over.flatMap jobB ++ t.last.flatMap repB)))) (w2.setCell ⟨T, 1, none⟩ (.int .u32 (t.spent : Int))) from ⟨.slice none 0 0, J2.out.spentSet HT.out rfl, by simp [Value.ownBlock], E2.out.chg cS (by intro k hk; simp at hk; subst hk; exact .inl LT.out.1), C2.out.trans (cS.mono (by intro k hk; simp at hk; subst hk; simp)), GE.out.1⟩)
  clear cS J2 E2 C2 B1
  generalize (w2.setCell ⟨T, 1, none⟩ (.int .u32 (t.spent : Int))) = w3 at I3 ⊢
  have e3 := hid (intE I3.out.at (show t.active.length ≤ 2147483647 from by omega))
  go_upto_region 3 with (go_at_call 73; go_loud (refine e3.out.mono ?_; rintro e w4 ⟨rfl, he, hc⟩; have I4 := hid (I3.out.look LT.out he hc); clear he hc))
  clear e3 I3
  obtain ⟨R2, hR2⟩ : ∃ R2, numL t.over.length ++ (t.over.flatMap jobB ++ t.last.flatMap repB) = R2 := ⟨_, rfl⟩
  rw [hR2] at I4
  have HR2 := hid hR2
  clear hR2
  go_loopw [20] (fun iv wr => RdL1 w B T b g t R2 iv wr) (fun iv _ => t.active.length - (intOf iv).toNat)
  case atStart => exact ⟨0, rfl, Nat.zero_le _, by rw [List.drop_zero]; exact I4.out⟩
  case round =>
    clear I4
    obtain ⟨k, rfl, hk, hp⟩ := hrel
    have I := hid hp
    clear hp
    by_cases hkl : k < t.active.length
    · have hkl' : (k : Int) < (t.active.length : Int) := by omega
      have hjm : t.active[k] ∈ t.active := List.getElem_mem hkl
      have HD := hid (show (t.active.drop k).flatMap jobB ++ R2 = jobB t.active[k] ++ ((t.active.drop (k + 1)).flatMap jobB ++ R2) from by rw [List.drop_eq_getElem_cons hkl, List.flatMap_cons, List.append_assoc])
      have e5 := hid (readj_calls wr w.heap.size g t.active[k] ((t.active.drop (k + 1)).flatMap jobB ++ R2) false (by have hE := I.out.at; rw [HD.out] at hE; exact hE) (HI.out.1 _ hjm) (HT.out.st _ hjm))
      have hI := HT.out.ids _ hjm
      have HJI := hid (HI.out.1 _ hjm)
      obtain ⟨j, hj⟩ : ∃ j, pj0 t.active[k] = j := ⟨_, rfl⟩
      have HKL := hid hkl
      have HJ := hid hj
      have hpj : pjO false t.active[k] = j := hj
      rw [hpj] at e5
      have id32 : j.id < 4294967296 := by rw [← hj]; have := HJI.out.1; exact this
      have HK32 := hid (keyOf32 id32)
      clear hjm hI hpj hj id32
      go_upto_region 5 with (first | (go_at_call 74; go_must (refine e5.out.mono ?_; rintro e w5 ⟨rfl, he, hc⟩; have I5 := hid (I.out.look LT.out he hc); clear he hc)) | (refine wpListQ_alloc (o := ⟨some 5, _, _, _, _, _⟩) 37 rfl rfl zjob 6 info_job ?_) | (refine wpListQ_store_new (o := ⟨none, _, 0, _, _, _⟩) rfl 37 (.tmp 5) (.tmp 23) rfl zjob (jobV j).toArray rfl rfl size_job rfl (all_oneCell_toArray (jobV_one _)) ?_))
      obtain ⟨z, hz⟩ : ∃ z, w5.heap.size = z := ⟨_, rfl⟩
      have b6 := below_alloc w5 (.cells (jobV j).toArray 37)
      have K6 := hid (show Blk (w5.alloc (.cells (jobV j).toArray 37)) z (jobV j) 37 from by rw [← hz]; exact blk_alloc w5 (jobV j) 37)
      have I6 := hid (I5.out.below b6)
      rw [hz]
      clear b6 hz I5 I e5
      generalize (w5.alloc (.cells (jobV j).toArray 37)) = w6 at K6 I6 ⊢
      obtain ⟨ov6, ⟨h61, h62, _⟩⟩ := I6.out
      have c2 := h61.own.get 2 rfl
      have k0 := K6.out.get 0 rfl
      have k1 := K6.out.get 1 rfl
      have k2 := K6.out.get 2 rfl
      have k3 := K6.out.get 3 rfl
      have k4 := K6.out.get 4 rfl
      have k5 := K6.out.get 5 rfl
      clear h61 h62
      go_still_tail 7, (by kernel_rfl)
      change wpList _ _ _ _ _ w6.drew
      clear c2 k0 k1 k2 k3 k4 k5
      have I7 := hid (I6.out.below (below_drew w6))
      generalize w6.drew = w7 at I7 ⊢
      obtain ⟨ov7, ⟨h71, h72, _⟩⟩ := I7.out
      obtain ⟨D, hD, hM⟩ := h71.map
      have HDD := hid hD
      have HMM := hid hM
      have hlen := hid (show (midT t k 0 0).active.length < maxLen from by have := h71.ok.few.1; unfold maxLen; omega)
      clear h71 h72 hD hM
      go_wp2_with (at_mapUpdate; go_must (refine wpList_mapUpdate_in _ rfl _ _ _ 72 rfl 28 37 keyed32 Tryd.underlying72 jobR b _ D rfl HDD.out hlen.out (.int .u32 (j.id : Int)) (.agg (jobV j).toArray) (idK j.id) rfl rfl HK32.out (jobDat j) [] (jobR_mk _) ?_; intro w9 hown9 hturn9))
      have C9 : Chg [b] w7 w9 := by simpa using chg_grown hturn9.grown
      have hkl := HKL.out
      have R : RdL1 w B T b g t R2 (.int .i64 ((k : Int) + 1)) w9 := ⟨k + 1, by simp, hkl, I7.out.put LT.out HT.out hkl HMM.out (by rw [HJ.out]; exact hown9) C9⟩
      refine ⟨?_, ?_⟩
      · first | exact R | ((repeat apply Exists.intro); refine ⟨R, ?_⟩; and_intros <;> rfl)
      · simp [intOf]
        omega
    · have hkl' : ¬ ((k : Int) < (t.active.length : Int)) := by omega
      have I4 := hid (show RdI w B T b g (midT t t.active.length 0 0) R2 wr from by
        have h := I.out
        rw [show k = t.active.length from by omega, List.drop_length, List.flatMap_nil, List.nil_append] at h
        exact h)
      clear hkl I hk
      rw [← HR2.out] at I4
      have e7 := hid (intE I4.out.at (show t.over.length ≤ 2147483647 from by omega))
      go_upto_region 8 with (go_at_call 73; go_loud (refine e7.out.mono ?_; rintro e w8 ⟨rfl, he, hc⟩; have I8 := hid (I4.out.look LT.out he hc); clear he hc))
      clear e7 I4
      obtain ⟨R3, hR3⟩ : ∃ R3, t.last.flatMap repB = R3 := ⟨_, rfl⟩
      rw [hR3] at I8
      have HR3 := hid hR3
      clear hR3 HR2
      go_loopw [35] (fun iv wr => RdL2 w B T b g t R3 iv wr) (fun iv _ => t.over.length - (intOf iv).toNat)
      case atStart => exact ⟨0, rfl, Nat.zero_le _, by rw [List.drop_zero]; exact I8.out⟩
      case round =>
        clear I8
        obtain ⟨k, rfl, hk, hp⟩ := hrel
        have I := hid hp
        clear hp
        by_cases hkl : k < t.over.length
        · have hkl' : (k : Int) < (t.over.length : Int) := by omega
          have hjm : t.over[k] ∈ t.over := List.getElem_mem hkl
          have HD := hid (show (t.over.drop k).flatMap jobB ++ R3 = jobB t.over[k] ++ ((t.over.drop (k + 1)).flatMap jobB ++ R3) from by rw [List.drop_eq_getElem_cons hkl, List.flatMap_cons, List.append_assoc])
          have HMI := hid (mid_over t t.active.length hkl)
          obtain ⟨j, hj⟩ : ∃ j, t.over[k] = j := ⟨_, rfl⟩
          rw [hj] at hjm HD HMI
          obtain ⟨ov, hO⟩ := I.out
          obtain ⟨ao, no, co, eov, hno, hnco, hcso⟩ := hO.isT.over.cs
          subst eov
          have O := hid hO
          have HJ := hid fun (W : World) (hW : Below wr.heap.size wr W) => (readj_calls W w.heap.size g j ((t.over.drop (k + 1)).flatMap jobB ++ R3) true (by have hE := (hO.below hW).eye; rw [HD.out] at hE; exact hE) (HI.out.2 _ hjm) (HT.out.ost _ hjm)).mono fun e w' hx => (show e = .returned (.agg #[.int .u32 (j.id : Int), .int .u8 (j.tier : Int), .int .i64 j.k, .int .i64 j.w, .int .u8 (j.state : Int), .int .i64 j.credit]) ∧ RdO w B T b g (.slice ao no co) (midT t t.active.length k 0) ((t.over.drop (k + 1)).flatMap jobB ++ R3) w' from ⟨hx.1, (hO.below hW).look LT.out hx.2.1 hx.2.2⟩)
          have HKL := hid hkl
          have c3 := hO.isT.own.get 3 rfl
          have lT := hO.isT.own.lt
          have HL := hid (show (midT t t.active.length k 0).over.length ≤ 64 from hO.isT.ok.few.2)
          have HTb := hid hO.isT.ne.1
          have HOK := hid (midT_ok HT.out (a := t.active.length) (o := k + 1) (l := 0) (by omega))
          clear hjm hj hO hno hnco hcso I
          go_upto_block 3 with fail
          go_cut [] from 36 to 48 (fun w' => RdI w B T b g (midT t t.active.length (k + 1) 0) ((t.over.drop (k + 1)).flatMap jobB ++ R3) w')
          case first =>
            go_upto_region 9 with fail
            go_region_law (first
              | (refine step_ok rfl ?_; refine opOk_call (f := 74) (args := #[.pointer (some ⟨g, 0, none⟩), .bool true]) (by go_simp) ?_; refine (HJ.out _ (by first | exact Below.refl _ _ | exact below_drewN (Below.refl _ _) _ | exact below_drew _)).mono ?_; rintro e w5 ⟨rfl, ho⟩; have O5 := hid ho; have c35 := O5.out.isT.own.get 3 rfl; have lT5 := O5.out.isT.own.lt; clear ho; refine ⟨_, rfl, ?_⟩)
              | (refine step_ok rfl ?_; refine RdO.append (.tmp 41) (.tmp 44) O5.out (by first | exact Below.refl _ _ | exact below_drewN (Below.refl _ _) _ | exact below_drew _) LT.out j _ rfl rfl rfl HL.out ?_; intro a4 n4 c4 w8 hA; have A8 := hid hA; have r3 := A8.out.own.get 3 rfl; have s3 := A8.out.own.free 3; clear hA))
            all_goals
              go_wp2_with fail
              go_meet
              have R9 : RdI w B T b g (midT t t.active.length (k + 1) 0) ((t.over.drop (k + 1)).flatMap jobB ++ R3) (w8.setCell ⟨T, 3, none⟩ (.slice a4 n4 c4)) := A8.out.store LT.out HTb.out HMI.out HOK.out
              first | exact R9 | ((repeat apply Exists.intro); refine ⟨R9, ?_⟩; and_intros <;> rfl)
          case rest =>
            have I9 := hid hcut
            clear HJ c3 lT O
            go_wp2_with fail
            have hkl := HKL.out
            have R : RdL2 w B T b g t R3 (.int .i64 ((k : Int) + 1)) wc := ⟨k + 1, by simp, hkl, I9.out⟩
            refine ⟨?_, ?_⟩
            · first | exact R | ((repeat apply Exists.intro); refine ⟨R, ?_⟩; and_intros <;> rfl)
            · simp [intOf]
              omega
        · have hkl' : ¬ ((k : Int) < (t.over.length : Int)) := by omega
          have I8 := hid (show RdI w B T b g (midT t t.active.length t.over.length 0) (t.last.flatMap repB) wr from by
            have h := I.out
            rw [show k = t.over.length from by omega, List.drop_length, List.flatMap_nil, List.nil_append, ← HR3.out] at h
            exact h)
          clear hkl I hk HR3
          go_upto_region 12 with fail
          go_loopw [49] (fun iv wr => RdL3 w B T b g t iv wr) (fun iv _ => 8 - (intOf iv).toNat)
          case atStart => exact ⟨0, rfl, Nat.zero_le _, by rw [List.drop_zero]; exact I8.out⟩
          case round =>
            clear I8
            obtain ⟨k, rfl, hk, hp⟩ := hrel
            have I := hid hp
            clear hp
            by_cases hkl : k < 8
            · have hkl' : (k : Int) < 8 := by omega
              have wk : IntKind.u8.wrap (k : Int) = (k : Int) := by rw [IntKind.wrap_u8]; omega
              have hk8 : k < t.last.length := by have := HT.out.last; omega
              obtain ⟨r, hr⟩ : ∃ r, t.last[k] = r := ⟨_, rfl⟩
              have hrm : r ∈ t.last := hr ▸ List.getElem_mem hk8
              have hgd : t.last.getD k repZ = r := by rw [List.getD_eq_getElem?_getD, List.getElem?_eq_getElem hk8, hr]; rfl
              have HD := hid (show (t.last.drop k).flatMap repB = numL r.seq ++ (numL r.job ++ (t.last.drop (k + 1)).flatMap repB) from by rw [List.drop_eq_getElem_cons hk8, List.flatMap_cons, hr]; unfold repB; rw [List.append_assoc])
              have HL := hid (HF.out.lst k r (by rw [List.getElem?_eq_getElem hk8, hr]))
              have HRk := hid (HT.out.lok r hrm)
              have lsq : (r.seq : Int) ≤ 4294967295 := by have := HRk.out.seq; omega
              have ljb : (r.job : Int) ≤ 4294967295 := by have := HRk.out.job; omega
              have HMS := hid (mid_last_set HT.out t.active.length t.over.length hkl)
              have HMZ := hid (mid_last_same HT.out t.active.length t.over.length hkl)
              rw [hgd] at HMS HMZ
              have HKL := hid hkl
              clear hr hrm hgd hk8
              go_upto_region 15 with (first | (refine wpListQ_alloc (o := ⟨some 7, _, _, _, _, _⟩) 30 rfl rfl zrep 6 info_rep ?_) | (refine wpListQ_store_new (o := ⟨none, _, 0, _, _, _⟩) rfl 30 (.tmp 7) (.tmp 54) rfl zrep (repV ⟨k, 0, 0, 0, 0, 0⟩).toArray rfl rfl size_rep rfl (all_oneCell_toArray (repV_one _)) ?_))
              dsimp only [Act.put]
              obtain ⟨z7, hz7⟩ : ∃ z, wr.heap.size = z := ⟨_, rfl⟩
              have b7 := below_alloc wr (.cells (repV (⟨k, 0, 0, 0, 0, 0⟩ : RepD)).toArray 30)
              have K7 := hid (show Blk (wr.alloc (.cells (repV (⟨k, 0, 0, 0, 0, 0⟩ : RepD)).toArray 30)) z7 (repV (⟨k, 0, 0, 0, 0, 0⟩ : RepD)) 30 from by rw [← hz7]; exact blk_alloc wr (repV (⟨k, 0, 0, 0, 0, 0⟩ : RepD)) 30)
              have I7 := hid (I.out.below b7)
              have gz7 := hid (show g < z7 from by obtain ⟨_, _, hE⟩ := I.out.at; have := hE.own.lt; omega)
              have zw7 := hid (show w.heap.size ≤ z7 from by have := GE.out; have := gz7.out; omega)
              rw [hz7]
              clear b7 hz7 I
              generalize (wr.alloc (.cells (repV (⟨k, 0, 0, 0, 0, 0⟩ : RepD)).toArray 30)) = w7 at K7 I7 ⊢
              go_upto_region 16 with (first | (refine wpList_load_blk (o := ⟨some 55, _, _, _, _, _⟩) 30 (.tmp 7) rfl rfl z7 (repV (⟨k, 0, 0, 0, 0, 0⟩ : RepD)) 30 rfl K7.out row_rep size_rep ?_) | (refine wpListQ_alloc (o := ⟨some 8, _, _, _, _, _⟩) 30 rfl rfl zrep 6 info_rep ?_) | (refine wpListQ_store_new (o := ⟨none, _, 0, _, _, _⟩) rfl 30 (.tmp 8) (.tmp 55) rfl zrep (repV (⟨k, 0, 0, 0, 0, 0⟩ : RepD)).toArray rfl rfl size_rep rfl (all_oneCell_toArray (repV_one _)) ?_))
              try dsimp only [Act.put]
              obtain ⟨z8, hz8⟩ : ∃ z, w7.heap.size = z := ⟨_, rfl⟩
              have b8 := below_alloc w7 (.cells (repV (⟨k, 0, 0, 0, 0, 0⟩ : RepD)).toArray 30)
              have K8 := hid (show Blk (w7.alloc (.cells (repV (⟨k, 0, 0, 0, 0, 0⟩ : RepD)).toArray 30)) z8 (repV (⟨k, 0, 0, 0, 0, 0⟩ : RepD)) 30 from by rw [← hz8]; exact blk_alloc w7 (repV (⟨k, 0, 0, 0, 0, 0⟩ : RepD)) 30)
              have K78 := hid (K7.out.below b8)
              have I8 := hid (I7.out.below b8)
              have z78 := hid (show z7 < z8 from by have := K7.out.lt; omega)
              rw [hz8]
              clear b8 hz8 I7 K7
              generalize (w7.alloc (.cells (repV (⟨k, 0, 0, 0, 0, 0⟩ : RepD)).toArray 30)) = w8 at K8 K78 I8 ⊢
              have e1 := hid (numE (by have := I8.out.at; rw [HD.out] at this; exact this) (show r.seq < 18446744073709551616 from by omega))
              have X2 := hid (show r.job < 18446744073709551616 from by omega)
              go_upto_region 17 with (go_at_call 72; go_must (first
                | (refine e1.out.mono ?_; rintro e y1 ⟨rfl, he, hc⟩; have e2 := hid (numE he X2.out); have I9 := hid (I8.out.look LT.out he hc); have K9 := hid (K8.out.keep hc (by have := gz7.out; have := z78.out; simp; omega)); have K79 := hid (K78.out.keep hc (by have := gz7.out; simp; omega)); clear he hc)
                | (refine e2.out.mono ?_; rintro e y2 ⟨rfl, he, hc⟩; have Ia := hid (I9.out.look LT.out he hc); have Ka := hid (K9.out.keep hc (by have := gz7.out; have := z78.out; simp; omega)); have K7a := hid (K79.out.keep hc (by have := gz7.out; simp; omega)); have c1 := Ka.out.get 1 rfl; have c3 := Ka.out.get 3 rfl; have f1 := Ka.out.free 1; have f3 := Ka.out.free 3; clear he hc)))
              have Zw8 := hid (show w.heap.size ≤ z8 from by have := zw7.out; have := z78.out; omega)
              have Zg8 := hid (show g < z8 from by have := gz7.out; have := z78.out; omega)
              have Kb := hid (show Blk ((y2.setCell ⟨z8, 1, none⟩ (.int .u32 (r.seq : Int))).setCell ⟨z8, 3, none⟩ (.int .u32 (r.job : Int))) z8 (repV (⟨k, r.seq, 0, r.job, 0, 0⟩ : RepD)) 30 from (Ka.out.set 1 (.int .u32 (r.seq : Int))).set 3 (.int .u32 (r.job : Int)))
              have K7b := hid (show Blk ((y2.setCell ⟨z8, 1, none⟩ (.int .u32 (r.seq : Int))).setCell ⟨z8, 3, none⟩ (.int .u32 (r.job : Int))) z7 (repV (⟨k, 0, 0, 0, 0, 0⟩ : RepD)) 30 from (K7a.out.keep (chg_setCell y2 z8 1 _) (by have := z78.out; simp; omega)).keep (chg_setCell _ z8 3 _) (by have := z78.out; simp; omega))
              have Ib := hid (show RdI w B T b g (midT t t.active.length t.over.length k) ((t.last.drop (k + 1)).flatMap repB) ((y2.setCell ⟨z8, 1, none⟩ (.int .u32 (r.seq : Int))).setCell ⟨z8, 3, none⟩ (.int .u32 (r.job : Int))) from (Ia.out.other LT.out Ka.out Zw8.out Zg8.out 1 _).other LT.out (Ka.out.set 1 _) Zw8.out Zg8.out 3 _)
              clear c1 c3 f1 f3 Ka K7a Ia e1 e2 K8 K78 I8 I9 K9 K79
              generalize ((y2.setCell ⟨z8, 1, none⟩ (.int .u32 (r.seq : Int))).setCell ⟨z8, 3, none⟩ (.int .u32 (r.job : Int))) = wb at Kb K7b Ib ⊢
              have d0 := Kb.out.get 0 rfl
              have e0 := K7b.out.get 0 rfl
              have d1 := Kb.out.get 1 rfl
              have e1 := K7b.out.get 1 rfl
              have d2 := Kb.out.get 2 rfl
              have e2 := K7b.out.get 2 rfl
              have d3 := Kb.out.get 3 rfl
              have e3 := K7b.out.get 3 rfl
              have d4 := Kb.out.get 4 rfl
              have e4 := K7b.out.get 4 rfl
              have d5 := Kb.out.get 5 rfl
              have e5 := K7b.out.get 5 rfl
              rcases HL.out with hz | ⟨h1, h2, h3, h4, h5, h6, h7⟩
              · have q1 : ((r.seq : Int) == 0) = true := by rw [hz]; rfl
                have q3 : ((r.job : Int) == 0) = true := by rw [hz]; rfl
                have HE := hid (HMZ.out hz)
                clear hz
                go_wp2_with fail
                have hkl := HKL.out
                have R : RdL3 w B T b g t (.int .i64 ((k : Int) + 1)) wb := ⟨k + 1, by simp, hkl, by rw [HE.out]; exact Ib.out⟩
                refine ⟨?_, ?_⟩
                · first | exact R | ((repeat apply Exists.intro); refine ⟨R, ?_⟩; and_intros <;> rfl)
                · simp [intOf]
                  omega
              · have q1 : ((r.seq : Int) == 0) = false := by simp; omega
                have HE := hid (show r = (⟨k, r.seq, 0, r.job, 0, 0⟩ : RepD) from by obtain ⟨ra, rb, rc, rd, re, rf⟩ := r; dsimp only at h1 h2 h3 h4; subst h1 h2 h3 h4; rfl)
                clear h1 h2 h3 h4 h5 h6 h7
                obtain ⟨ovb, hOb⟩ := Ib.out
                have l0 := hOb.isT.own.get (4 + k * 6 + 0) (by rw [tb_last hOb.isT.ok b ovb HKL.out (by omega)]; rfl)
                have fl0 := hOb.isT.own.free (4 + k * 6 + 0)
                have l1 := hOb.isT.own.get (4 + k * 6 + 1) (by rw [tb_last hOb.isT.ok b ovb HKL.out (by omega)]; rfl)
                have fl1 := hOb.isT.own.free (4 + k * 6 + 1)
                have l2 := hOb.isT.own.get (4 + k * 6 + 2) (by rw [tb_last hOb.isT.ok b ovb HKL.out (by omega)]; rfl)
                have fl2 := hOb.isT.own.free (4 + k * 6 + 2)
                have l3 := hOb.isT.own.get (4 + k * 6 + 3) (by rw [tb_last hOb.isT.ok b ovb HKL.out (by omega)]; rfl)
                have fl3 := hOb.isT.own.free (4 + k * 6 + 3)
                have l4 := hOb.isT.own.get (4 + k * 6 + 4) (by rw [tb_last hOb.isT.ok b ovb HKL.out (by omega)]; rfl)
                have fl4 := hOb.isT.own.free (4 + k * 6 + 4)
                have l5 := hOb.isT.own.get (4 + k * 6 + 5) (by rw [tb_last hOb.isT.ok b ovb HKL.out (by omega)]; rfl)
                have fl5 := hOb.isT.own.free (4 + k * 6 + 5)
                rw [Nat.add_zero] at l0 fl0
                have Tl := hOb.isT.own.lt
                have zl := Kb.out.lt
                have nT : z8 ≠ T := by have := Zw8.out; have := LT.out; omega
                clear hOb
                go_upto_region 18 with fail
                go_region
                have HM2 := hid (show midT t t.active.length t.over.length (k + 1) = { midT t t.active.length t.over.length k with last := (midT t t.active.length t.over.length k).last.set k (⟨k, r.seq, 0, r.job, 0, 0⟩ : RepD) } from by rw [HMS.out, ← HE.out])
                have HOK := hid (show TbD.Ok { midT t t.active.length t.over.length k with last := (midT t t.active.length t.over.length k).last.set k (⟨k, r.seq, 0, r.job, 0, 0⟩ : RepD) } from by rw [← HM2.out]; exact midT_ok HT.out (by have := HKL.out; omega))
                have Ic := hid (show RdI w B T b g (midT t t.active.length t.over.length (k + 1)) ((t.last.drop (k + 1)).flatMap repB) ((((((wb.setCell ⟨T, 4 + k * 6, none⟩ (.int .u8 (k : Int))).setCell ⟨T, 4 + k * 6 + 1, none⟩ (.int .u32 (r.seq : Int))).setCell ⟨T, 4 + k * 6 + 2, none⟩ (.int .i64 0)).setCell ⟨T, 4 + k * 6 + 3, none⟩ (.int .u32 (r.job : Int))).setCell ⟨T, 4 + k * 6 + 4, none⟩ (.int .u8 0)).setCell ⟨T, 4 + k * 6 + 5, none⟩ (.int .i64 0)).drew from by
                  rw [HM2.out]
                  exact Ib.out.newLast LT.out fun ov hI => hI.keepRep HKL.out (⟨k, r.seq, 0, r.job, 0, 0⟩ : RepD) (below_drew (set6 wb T (4 + k * 6) (.int .u8 (k : Int)) (.int .u32 (r.seq : Int)) (.int .i64 0) (.int .u32 (r.job : Int)) (.int .u8 0) (.int .i64 0))) HOK.out)
                clear d0 d1 d2 d3 d4 d5 e0 e1 e2 e3 e4 e5 l0 l1 l2 l3 l4 l5 fl0 fl1 fl2 fl3 fl4 fl5 Tl zl nT q1
                generalize ((((((wb.setCell ⟨T, 4 + k * 6, none⟩ (.int .u8 (k : Int))).setCell ⟨T, 4 + k * 6 + 1, none⟩ (.int .u32 (r.seq : Int))).setCell ⟨T, 4 + k * 6 + 2, none⟩ (.int .i64 0)).setCell ⟨T, 4 + k * 6 + 3, none⟩ (.int .u32 (r.job : Int))).setCell ⟨T, 4 + k * 6 + 4, none⟩ (.int .u8 0)).setCell ⟨T, 4 + k * 6 + 5, none⟩ (.int .i64 0)).drew = wc at Ic ⊢
                go_wp2_with fail
                have hkl := HKL.out
                have R : RdL3 w B T b g t (.int .i64 ((k : Int) + 1)) wc := ⟨k + 1, by simp, hkl, Ic.out⟩
                refine ⟨?_, ?_⟩
                · first | exact R | ((repeat apply Exists.intro); refine ⟨R, ?_⟩; and_intros <;> rfl)
                · simp [intOf]
                  omega
            · have hkl' : ¬ ((k : Int) < 8) := by omega
              have Ie := I.out
              rw [show k = 8 from by omega, midT_all HT.out, List.drop_of_length_le (by rw [HT.out.last]; exact Nat.le_refl _), List.flatMap_nil] at Ie
              clear hkl I hk
              obtain ⟨ov, hO⟩ := Ie
              have O := hid hO
              clear hO
              have HEnd := hid fun (W : World) (hW : Below wr.heap.size wr W) => end_calls W w.heap.size g [] false (O.out.below hW).eye
              have HByt := hid fun (W : World) (hW : Below wr.heap.size wr W) => jbytes_calls W B T b ov (plainT t) (O.out.below hW).isT
              have HSou := hid fun (W : World) (hW : Below wr.heap.size wr W) => sound_calls W B T b ov (plainT t) (O.out.below hW).isT HF.out.plain
              have HSt := hid fun (W : World) (hW : Below wr.heap.size wr W) => (show BS W a cap (bytesT t) from (HS.out.chg O.out.chg (fun x hx => by have := HsT.out x hx; simp; exact this)).below hW)
              have HBp := hid (bytes_plain HT.out)
              rw [HBp.out] at HByt
              have kcd := fun (q : Nat) => run_convert_b (P := Tryd.prog) 56 9 5 under_bytes under_u8 under_str (HSt.out (wr.drewN q) (below_drewN (Below.refl wr.heap.size wr) q))
              clear lo la lsp
              go_upto_region 20 with fail
              go_region_with (first
                | (go_at_call 76; refine (HEnd.out _ (below_drewN (Below.refl _ _) _)).mono ?_; rintro e w2 ⟨rfl, rfl⟩)
                | (go_at_call 20; refine (HByt.out _ (below_drewN (Below.refl _ _) _)).mono ?_; rintro e w3 ⟨v3, rfl, ho, hb⟩; obtain ⟨a3, c3, rfl, hbs, _⟩ := ho.bs; have B3 := hid (show Below wr.heap.size wr w3 from (below_drewN (Below.refl _ wr) _).trans hb); have kc3 := run_convert_b (P := Tryd.prog) 56 9 5 under_bytes under_u8 under_str hbs; have kcp := run_convert_b (P := Tryd.prog) 56 9 5 under_bytes under_u8 under_str (HSt.out _ B3.out); clear ho hb hbs)
                | (go_at_call 77; refine (HSou.out _ (by first | exact B3.out | exact B3.out.trans ((below_drewN (Below.refl _ w3) _).mono B3.out.size))).mono ?_; rintro e w4 ⟨rfl, hb⟩; have B4 := hid (show Below wr.heap.size wr w4 from by first | exact B3.out.trans (hb.mono B3.out.size) | exact (B3.out.trans ((below_drewN (Below.refl _ w3) _).mono B3.out.size)).trans (hb.mono B3.out.size)); clear hb)
                | (go_at_call 75; refine (must_calls _).mono ?_; rintro e w5 ⟨rfl, rfl⟩))
              all_goals
                refine bodyPost_end (results_none rfl _ _ _) rfl ?_
                have B5 : Below wr.heap.size wr w5 := B4.out
                exact ⟨rfl, ov, O.out.isT.below B5, fun k hk => by have := O.out.ovg k hk; have := GE.out; omega, O.out.chg.trans (Chg.of_below _ B5)⟩
end Go.Proofs.YtombndhjoaaaiaaDoor

/- The walks of layer 16: Read of a table's own bytes. -/
namespace Go.Proofs.YtombndhjoaaaiaaDoor
open Go.RowKit Go.Quad _root_.Quad _root_.Quad.Ink

theorem catch_idle (p q : Addr) (w : World) :
    CallsD Tryd.prog 55 #[.pointer (some p), .pointer (some q)] .returning w fun e u' w' => e = .returned (.tuple #[]) ∧ u' = .returning ∧ w' = w := by
  refine callsD_of_wpS Tryd.func55 rfl fun c₀ cs hu => ?_
  apply wpS_seq
  apply wpS_region
  simp [wpOpsS, go_sem, recoverD, hu, Tryd.ntmps55, Exit.thenS]
  refine wpS_of_wp ?_
  obtain ⟨Q, hQ⟩ : ∃ Q, (fun (e : Exit) (a' : Act) (w' : World) => bodyPostS Tryd.prog Tryd.f55 c₀ cs (fun e u' w' => e = .returned (.tuple #[]) ∧ u' = .returning ∧ w' = w) e a' (c₀ :: cs) w') = Q := ⟨_, rfl⟩
  change Code.wp Tryd.prog _ (fun (e : Exit) (a' : Act) (w' : World) => bodyPostS Tryd.prog Tryd.f55 c₀ cs (fun e u' w' => e = .returned (.tuple #[]) ∧ u' = .returning ∧ w' = w) e a' (c₀ :: cs) w') { tmps := #[.pointer (some p), .pointer (some q), undef, undef, undef, .nilIface, undef, undef, undef, undef, undef], defers := [] } w
  rw [hQ]
  go_wp2
  rw [← hQ]
  cases c₀
  simp_all [bodyPostS, results, Tryd.results55]

theorem IsTb.base {w : World} {B B' T b : Nat} {ov : Value} {t : TbD} (h : IsTb w B T b ov t) (hB : B' ≤ B) : IsTb w B' T b ov t :=
  ⟨h.own, h.map, JR.base h.over hB, ⟨Nat.le_trans hB h.ge.1, Nat.le_trans hB h.ge.2⟩, h.ok⟩
/-- what reading brings about -/
def ReadTo (w : World) (t : TbD) (e : Ending) (w' : World) : Prop :=
  ∃ T b ov, e = .returned (.tuple #[.pointer (some ⟨T, 0, none⟩), .int .i64 0]) ∧ IsTb w' w.heap.size T b ov (plainT t) ∧ Below w.heap.size w w'

set_option maxRecDepth 100000 in
set_option maxHeartbeats 20000000 in
theorem jread_calls (w : World) (t : TbD) (a : Option Addr) (cap : Nat) (ht : t.Ok) (hf : Fit t) (hs : BS w a cap (bytesT t)) (hw : ∀ x, a = some x → x.block < w.heap.size) :
    Calls Tryd.prog 29 #[.slice a (bytesT t).length cap, .int .i64 t.nodes] w (ReadTo w t) := by
  have hmf : ∀ (fn : Fn) (first cap : Array Value) (w : World), (Instr.makeFunc fn first cap).run Tryd.prog w = .ok (.func fn first cap) w := fun _ _ _ _ => rfl
  obtain ⟨z, hz⟩ : ∃ z, w.heap.size = z := ⟨_, rfl⟩
  go_enter_defers Tryd.func29, Tryd.ntmps29
  go_upto_region 1 with fail
  have b0 := below_alloc w (.cells #[.pointer none] 24)
  have k0 := blk_alloc w [.pointer none] 24
  have b1 := below_alloc (w.alloc (.cells #[.pointer none] 24)) (.cells #[.int .i64 0] 25)
  have k1 := blk_alloc (w.alloc (.cells #[.pointer none] 24)) [.int .i64 0] 25
  rw [show (w.alloc (.cells #[.pointer none] 24)).heap.size = z + 1 from by simp [hz]] at k1
  rw [hz] at k0
  have K4 := hid (show Blk ((w.alloc (.cells #[.pointer none] 24)).alloc (.cells #[.int .i64 0] 25)) z [.pointer none] 24 from k0.below b1)
  have K5 := hid (show Blk ((w.alloc (.cells #[.pointer none] 24)).alloc (.cells #[.int .i64 0] 25)) (z + 1) [.int .i64 0] 25 from k1)
  have B1 := hid (show Below w.heap.size w ((w.alloc (.cells #[.pointer none] 24)).alloc (.cells #[.int .i64 0] 25)) from b0.trans (b1.mono b0.size))
  have HS := hid (show ((w.alloc (.cells #[.pointer none] 24)).alloc (.cells #[.int .i64 0] 25)).heap.size = z + 2 from by simp [hz])
  have Zs := hid hz
  have HT := hid ht
  have HF := hid hf
  have S1 := hid (hs.below B1.out)
  have HW := hid hw
  clear b0 k0 b1 k1 hz ht hf hs hw
  generalize ((w.alloc (.cells #[.pointer none] 24)).alloc (.cells #[.int .i64 0] 25)) = w1 at K4 K5 B1 HS S1 ⊢
  have HN := hid ((jnew_calls w1 t.nodes (by have := HT.out.nodes; omega)).mono fun e w' h => (show ∃ T b, e = .returned (.tuple #[.pointer (some ⟨T, 0, none⟩), .int .i64 0]) ∧ IsTb w' w1.heap.size T b (.slice none 0 0) (newT t.nodes) ∧ Below w1.heap.size w1 w' from by unfold NewTo at h; rw [if_pos HT.out.nodes] at h; exact h))
  have c4 := K4.out.get 0 rfl
  have c5 := K5.out.get 0 rfl
  go_upto_region 2 with (go_at_call 10; go_loud (refine HN.out.mono ?_; rintro e w2 ⟨T, b, rfl, hI, hb⟩; have I2 := hid hI; have B2 := hid hb; have K42 := hid (K4.out.below hb); have K52 := hid (K5.out.below hb); have d4 := K42.out.get 0 rfl; have d5 := K52.out.get 0 rfl; have f4 := K42.out.free 0; have f5 := K52.out.free 0; clear hI hb))
  have TZ := hid (show z + 2 ≤ T ∧ z + 2 ≤ b from by have := I2.out.ge; have := HS.out; omega)
  have cS := ((chg_setCell w2 z 0 (.pointer (some ⟨T, 0, none⟩))).mono (T := [z, z + 1]) (by simp)).trans ((chg_setCell (w2.setCell ⟨z, 0, none⟩ (.pointer (some ⟨T, 0, none⟩))) (z + 1) 0 (.int .i64 0)).mono (T := [z, z + 1]) (by simp))
  have I3 := hid (show IsTb ((w2.setCell ⟨z, 0, none⟩ (.pointer (some ⟨T, 0, none⟩))).setCell ⟨z + 1, 0, none⟩ (.int .i64 0)) w1.heap.size T b (.slice none 0 0) (newT t.nodes) from I2.out.chg cS (fun k hk hm => by
    simp [tbS, Value.ownBlock] at hk hm
    have := TZ.out
    rcases hk with rfl | rfl <;> omega))
  have K43 := hid (show Blk ((w2.setCell ⟨z, 0, none⟩ (.pointer (some ⟨T, 0, none⟩))).setCell ⟨z + 1, 0, none⟩ (.int .i64 0)) z [.pointer (some ⟨T, 0, none⟩)] 24 from (K42.out.set 0 _).keep (chg_setCell _ (z + 1) 0 _) (by simp))
  have K53 := hid (show Blk ((w2.setCell ⟨z, 0, none⟩ (.pointer (some ⟨T, 0, none⟩))).setCell ⟨z + 1, 0, none⟩ (.int .i64 0)) (z + 1) [.int .i64 0] 25 from (K52.out.keep (chg_setCell _ z 0 _) (by simp)).set 0 _)
  have B3 := hid (show Below w.heap.size w ((w2.setCell ⟨z, 0, none⟩ (.pointer (some ⟨T, 0, none⟩))).setCell ⟨z + 1, 0, none⟩ (.int .i64 0)) from (B1.out.trans (B2.out.mono B1.out.size)).trans (cS.below (Nat.le_trans B1.out.size B2.out.size) (by intro k hk; simp at hk; have := Zs.out; omega)))
  have S3 := hid ((S1.out.below B2.out).chg cS (fun x hx hm => by have := HW.out x hx; have := Zs.out; simp at hm; omega))
  clear cS c4 c5 d4 d5 f4 f5 I2 B2 K42 K52 K4 K5 S1 HN
  generalize ((w2.setCell ⟨z, 0, none⟩ (.pointer (some ⟨T, 0, none⟩))).setCell ⟨z + 1, 0, none⟩ (.int .i64 0)) = w3 at I3 K43 K53 B3 S3 ⊢
  have HR := hid (tread_calls w3 w1.heap.size T b t a cap I3.out HT.out HF.out S3.out (fun x hx => by have := HW.out x hx; have := TZ.out; have := Zs.out; omega))
  have c4 := K43.out.get 0 rfl
  have c5 := K53.out.get 0 rfl
  go_wp2_with (go_at_call 56; go_loud (refine HR.out.mono ?_; rintro e w4 ⟨rfl, ov, hI, hov, hc⟩; have I4 := hid hI; have V4 := hid hov; have C4 := hid hc; have K44 := hid (K43.out.keep hc (by have := TZ.out; simp; omega)); have K54 := hid (K53.out.keep hc (by have := TZ.out; simp; omega)); have d4 := K44.out.get 0 rfl; have d5 := K54.out.get 0 rfl; have f4 := K44.out.free 0; have f5 := K54.out.free 0; clear hI hov hc))
  have cS := ((chg_setCell w4 z 0 (.pointer (some ⟨T, 0, none⟩))).mono (T := [z, z + 1]) (by simp)).trans ((chg_setCell (w4.setCell ⟨z, 0, none⟩ (.pointer (some ⟨T, 0, none⟩))) (z + 1) 0 (.int .i64 0)).mono (T := [z, z + 1]) (by simp))
  have I5 := hid (show IsTb ((w4.setCell ⟨z, 0, none⟩ (.pointer (some ⟨T, 0, none⟩))).setCell ⟨z + 1, 0, none⟩ (.int .i64 0)) w1.heap.size T b ov (plainT t) from I4.out.chg cS (fun k hk hm => by
    have h1 := TZ.out
    have h2 := HS.out
    have h3 := I3.out.lt T (by simp [tbS])
    rcases List.mem_cons.1 hk with rfl | hk
    · simp at hm; omega
    · rcases List.mem_cons.1 hk with rfl | hk
      · simp at hm; omega
      · have := V4.out k (by simpa using hk); simp at hm; omega))
  have K45 := hid (show Blk ((w4.setCell ⟨z, 0, none⟩ (.pointer (some ⟨T, 0, none⟩))).setCell ⟨z + 1, 0, none⟩ (.int .i64 0)) z [.pointer (some ⟨T, 0, none⟩)] 24 from (K44.out.set 0 _).keep (chg_setCell _ (z + 1) 0 _) (by simp))
  have K55 := hid (show Blk ((w4.setCell ⟨z, 0, none⟩ (.pointer (some ⟨T, 0, none⟩))).setCell ⟨z + 1, 0, none⟩ (.int .i64 0)) (z + 1) [.int .i64 0] 25 from (K54.out.keep (chg_setCell _ z 0 _) (by simp)).set 0 _)
  have B5 := hid (show Below w.heap.size w ((w4.setCell ⟨z, 0, none⟩ (.pointer (some ⟨T, 0, none⟩))).setCell ⟨z + 1, 0, none⟩ (.int .i64 0)) from (B3.out.trans (C4.out.below B3.out.size (by intro k hk; simp at hk; have := TZ.out; have := Zs.out; omega))).trans (cS.below (Nat.le_trans B3.out.size C4.out.size) (by intro k hk; simp at hk; have := Zs.out; omega)))
  have WB := hid (show w.heap.size ≤ w1.heap.size from B1.out.size)
  clear cS c4 c5 d4 d5 f4 f5 I4 K44 K54 K43 K53 I3 B3 C4
  generalize ((w4.setCell ⟨z, 0, none⟩ (.pointer (some ⟨T, 0, none⟩))).setCell ⟨z + 1, 0, none⟩ (.int .i64 0)) = w5 at I5 K45 K55 B5 ⊢
  have c4 := K45.out.get 0 rfl
  have c5 := K55.out.get 0 rfl
  refine leaves_cons (f := 55) (args := #[.pointer (some ⟨z, 0, none⟩), .pointer (some ⟨z + 1, 0, none⟩)]) (by simp) (by simp [go_sem]) ?_
  refine (catch_idle ⟨z, 0, none⟩ ⟨z + 1, 0, none⟩ _).mono ?_
  rintro e u' w'' ⟨rfl, rfl, rfl⟩
  refine ⟨.tuple #[.pointer (some ⟨T, 0, none⟩), .int .i64 0], ?_, T, b, ov, rfl, I5.out.base WB.out, B5.out⟩
  simp [results, Tryd.results29, go_sem, c4, c5]
end Go.Proofs.YtombndhjoaaaiaaDoor
