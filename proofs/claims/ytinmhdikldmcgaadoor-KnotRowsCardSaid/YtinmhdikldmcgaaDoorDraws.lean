/- A law for a statement whose order is open: each operation is shown once, at whatever world it meets, out of what the operations that it must wait for have left; then the whole statement holds, in whatever order. -/
import Derived.Test.YtinmhdikldmcgaaDoorLib
namespace Go.Quad
open Go.RowKit

/-- which operation, of those that i waits for, fills slot t -/
def srcOf (ops : Array Oper) (o : Oper) (t : Tmp) : Option Nat :=
  (o.after.toList.find? fun e => Region.binds .any e && ((ops[e.on]?).bind (·.dst)) == some t).map (·.on)

def tmpsOf (o : Oper) : List Tmp := o.op.operands.toList.filterMap fun | .tmp t => some t | _ => none

def waitsB (o : Oper) (i : Nat) : Bool := o.after.any fun e => Region.binds .any e && e.on == i

def notSelect : Op → Bool
  | .select .. => false
  | _ => true

/-- the check over the statement's text -/
def drawsOk (ops : Array Oper) (n : Nat) : Bool :=
  ops.zipIdx.toList.all fun (o, i) =>
    (o.after.all fun e => !Region.binds .any e || e.on < i) &&
    (match o.dst with | some d => decide (d < n) && (ops.zipIdx.toList.all fun (o', j) => o'.dst != some d || i == j) | none => true) &&
    ((tmpsOf o).all fun t => (srcOf ops o t).isSome || (ops.zipIdx.toList.all fun (o', j) => o'.dst != some t || i == j || waitsB o' i)) &&
    (match o.guard with | some (g, _) => waitsB o g && ((ops[g]?).bind (·.dst)).isSome | none => true) &&
    notSelect o.op

/-- what an operation is asked to end in -/
def OpOk (P : Program) (o : Oper) (ρ : Operand → Value) (w : World) (R : Value → World → Prop) : Prop :=
  match (execOp ρ o).run P w with
  | .ok (.value v) w' => R v w'
  | .ok .skip w' => R undef w'
  | .ok (.enter f args) w' => Calls P f args w' fun e w'' => ∃ v, e = .returned v ∧ R v w''
  | _ => False

/-- what is known of the slots that an operation reads -/
def InF (ops : Array Oper) (o : Oper) (R : Nat → Value → World → Prop) (a0 : Act) (ρ : Operand → Value) (w : World) : List Operand → Prop → Prop
  | [], C => C
  | .tmp t :: r, C => (match srcOf ops o t with | some j => R j (ρ (.tmp t)) w | none => ρ (.tmp t) = a0.eval (.tmp t)) → InF ops o R a0 ρ w r C
  | _ :: r, C => InF ops o R a0 ρ w r C

def GuF (ops : Array Oper) (o : Oper) (R : Nat → Value → World → Prop) (i : Nat) (ρ : Operand → Value) (w : World) (C : Prop) : Prop :=
  match o.guard with
  | none => C
  | some (g, want) => ∀ u, R g u w → (u = .bool want → C) ∧ (u ≠ .bool want → R i undef w)

def PutAll (R : Nat → Value → World → Prop) (w' : World) (Q : Exit → Act → World → Prop) : List Oper → Nat → Act → Prop
  | [], _, a => Q .normal a w'
  | o :: r, i, a => ∀ v, R i v w' → PutAll R w' Q r (i + 1) (a.put o.dst v)

structure DInv (ops : Array Oper) (R : Nat → Value → World → Prop) (E : World → World → Prop) (a0 : Act) (w0 : World) (listed : Array Bool) (a : Act) (w : World) : Prop where
  defers : a.defers = a0.defers
  size : a.tmps.size = a0.tmps.size
  lsize : listed.size = ops.size
  ext : E w0 w
  did : ∀ j o, ops[j]? = some o → listed.getD j false = true → R j (match o.dst with | some d => a.tmps.getD d undef | none => undef) w
  keep : ∀ t, (∀ j o, ops[j]? = some o → listed.getD j false = true → o.dst ≠ some t) → a.tmps[t]? = a0.tmps[t]?
  shut : ∀ j o, ops[j]? = some o → listed.getD j false = true → ∀ e ∈ o.after, Region.binds .any e = true → listed.getD e.on false = true

theorem zipIdx_all {ops : Array Oper} {f : Oper × Nat → Bool} (h : ops.zipIdx.toList.all f = true) {i : Nat} {o : Oper} (ho : ops[i]? = some o) : f (o, i) = true := by
  rw [List.all_eq_true] at h
  apply h
  rw [Array.mem_toList_iff, Array.mem_iff_getElem?]
  exact ⟨i, by simp [ho]⟩

section
variable {P : Program} {ops : Array Oper} {R : Nat → Value → World → Prop} {E : World → World → Prop} {a0 : Act} {w0 : World} {Q : Exit → Act → World → Prop}

theorem drawsOk_spec (h : drawsOk ops a0.tmps.size = true) {i : Nat} {o : Oper} (ho : ops[i]? = some o) :
    (∀ e ∈ o.after, Region.binds .any e = true → e.on < i) ∧
    (∀ d, o.dst = some d → d < a0.tmps.size ∧ ∀ j o', ops[j]? = some o' → o'.dst = some d → i = j) ∧
    (∀ t ∈ tmpsOf o, srcOf ops o t = none → ∀ j o', ops[j]? = some o' → o'.dst = some t → i = j ∨ waitsB o' i = true) ∧
    (∀ g b, o.guard = some (g, b) → waitsB o g = true ∧ ∃ og dg, ops[g]? = some og ∧ og.dst = some dg) ∧ notSelect o.op = true := by
  have hh := zipIdx_all h ho
  simp only [Bool.and_eq_true] at hh
  obtain ⟨⟨⟨⟨h1, h2⟩, h3⟩, h4⟩, h5⟩ := hh
  refine ⟨?_, ?_, ?_, ?_, h5⟩
  · intro e he hb
    rw [Array.all_eq_true_iff_forall_mem] at h1
    have := h1 e he
    simpa [hb] using this
  · intro d hd
    rw [hd] at h2
    simp only [Bool.and_eq_true, decide_eq_true_eq] at h2
    refine ⟨h2.1, fun j o' ho' hd' => ?_⟩
    have := zipIdx_all h2.2 ho'
    simpa [hd'] using this
  · intro t ht hs j o' ho' hd'
    rw [List.all_eq_true] at h3
    have h3' := h3 t ht
    rw [hs] at h3'
    simp only [Option.isSome_none, Bool.false_or] at h3'
    have := zipIdx_all h3' ho'
    simpa [hd'] using this
  · intro g b hg
    rw [hg] at h4
    simp only [Bool.and_eq_true] at h4
    refine ⟨h4.1, ?_⟩
    have h42 := h4.2
    cases hog : ops[g]? with
    | none => rw [hog] at h42; simp at h42
    | some og =>
      rw [hog] at h42
      simp only [Option.bind_some] at h42
      obtain ⟨dg, hdg⟩ := Option.isSome_iff_exists.1 h42
      exact ⟨og, dg, rfl, hdg⟩

theorem waitsB_spec {o : Oper} {i : Nat} (h : waitsB o i = true) : ∃ e ∈ o.after, Region.binds .any e = true ∧ e.on = i := by
  unfold waitsB at h
  rw [Array.any_eq_true'] at h
  obtain ⟨e, he, hb⟩ := h
  simp only [Bool.and_eq_true, beq_iff_eq] at hb
  exact ⟨e, he, hb.1, hb.2⟩

theorem srcOf_spec {o : Oper} {t : Tmp} {j : Nat} (h : srcOf ops o t = some j) : ∃ e ∈ o.after, Region.binds .any e = true ∧ e.on = j ∧ ∃ o', ops[j]? = some o' ∧ o'.dst = some t := by
  unfold srcOf at h
  rw [Option.map_eq_some_iff] at h
  obtain ⟨e, he, rfl⟩ := h
  have hm := List.mem_of_find?_eq_some he
  have hp := List.find?_some he
  simp only [Bool.and_eq_true, beq_iff_eq] at hp
  refine ⟨e, Array.mem_toList_iff.1 hm, hp.1, rfl, ?_⟩
  cases ho' : ops[e.on]? with
  | none => rw [ho'] at hp; simp at hp
  | some o' => rw [ho'] at hp; exact ⟨o', rfl, by simpa using hp.2⟩

theorem InF_use {o : Oper} {ρ : Operand → Value} {w : World} {C : Prop} : ∀ (l : List Operand), InF ops o R a0 ρ w l C →
    (∀ t, Operand.tmp t ∈ l → (match srcOf ops o t with | some j => R j (ρ (.tmp t)) w | none => ρ (.tmp t) = a0.eval (.tmp t))) → C
  | [], h, _ => h
  | .tmp t :: r, h, hf => InF_use r (h (hf t (by simp))) fun t ht => hf t (by simp [ht])
  | .const _ :: r, h, hf => InF_use r h fun t ht => hf t (by simp [ht])
  | .global _ :: r, h, hf => InF_use r h fun t ht => hf t (by simp [ht])
  | .func _ :: r, h, hf => InF_use r h fun t ht => hf t (by simp [ht])

theorem count_set : ∀ (l : List Bool) (i : Nat), l[i]? = some false → (l.set i true).count false + 1 = l.count false
  | [], i, h => by simp at h
  | b :: l, 0, h => by simp at h; subst h; simp
  | b :: l, i + 1, h => by
    have := count_set l i (by simpa using h)
    cases b <;> simp [List.count_cons] at * <;> omega

theorem put_at {a : Act} {d : Tmp} {v : Value} (hd : d < a.tmps.size) : (a.put (some d) v).tmps.getD d undef = v := by
  simp [Act.put, hd]

theorem put_ne {a : Act} {dst : Option Tmp} {v : Value} {t : Tmp} (h : dst ≠ some t) : (a.put dst v).tmps[t]? = a.tmps[t]? := by
  cases dst with
  | none => rfl
  | some d => simp only [Act.put]; exact Array.getElem?_setIfInBounds_ne (fun e => h (by rw [e]))

theorem put_size {a : Act} {dst : Option Tmp} {v : Value} : (a.put dst v).tmps.size = a.tmps.size := by
  cases dst <;> simp [Act.put]

theorem put_defers {a : Act} {dst : Option Tmp} {v : Value} : (a.put dst v).defers = a.defers := by
  cases dst <;> rfl

theorem DInv.put (hok : drawsOk ops a0.tmps.size = true) (hst : ∀ j v w w', R j v w → E w w' → R j v w') (htr : ∀ w w' w'', E w w' → E w' w'' → E w w'')
    {listed : Array Bool} {a : Act} {w w' : World} {i : Nat} {o : Oper} {v : Value} (h : DInv ops R E a0 w0 listed a w) (ho : ops[i]? = some o) (hr : i ∈ Region.ready .any ops listed)
    (he : E w w') (hv : R i (if o.dst.isSome then v else undef) w') : DInv ops R E a0 w0 (listed.setIfInBounds i true) (a.put o.dst v) w' := by
  obtain ⟨hun, o1, ho1, hall⟩ := mem_ready.1 hr
  rw [ho] at ho1; cases ho1
  have hilt : i < ops.size := (Array.getElem?_eq_some_iff.1 ho).1
  have hset : ∀ j, (listed.setIfInBounds i true).getD j false = true → j = i ∨ listed.getD j false = true := by
    intro j hj
    by_cases e : j = i
    · exact .inl e
    · right; rwa [getD_set_ne false (Ne.symm e)] at hj
  refine ⟨put_defers.trans h.defers, put_size.trans h.size, by simp [h.lsize], htr _ _ _ h.ext he, ?_, ?_, ?_⟩
  · intro j oj hoj hj
    by_cases e : j = i
    · subst e
      rw [ho] at hoj; cases hoj
      cases hd : o.dst with
      | none => rw [hd] at hv; simpa using hv
      | some d =>
        rw [hd] at hv
        have := ((drawsOk_spec hok ho).2.1 d hd).1
        simp only []
        rw [put_at (by rw [h.size]; exact this)]
        simpa using hv
    · have hj' := (hset j hj).resolve_left e
      have := hst _ _ _ _ (h.did j oj hoj hj') he
      cases hd : oj.dst with
      | none => rw [hd] at this; exact this
      | some d =>
        rw [hd] at this
        have hne : o.dst ≠ some d := fun e' => e (((drawsOk_spec hok ho).2.1 d e').2 j oj hoj hd).symm
        simp only [Array.getD_eq_getD_getElem?] at this ⊢
        rw [put_ne hne]
        exact this
  · intro t ht
    have hne : o.dst ≠ some t := ht i o ho (by
      rw [Array.getD_eq_getD_getElem?, Array.getElem?_setIfInBounds]
      have : i < listed.size := by rw [h.lsize]; exact hilt
      simp [this])
    rw [put_ne hne]
    exact h.keep t fun j oj hoj hj => ht j oj hoj (getD_set_true hj)
  · intro j oj hoj hj e hemem hb
    by_cases ej : j = i
    · subst ej
      rw [ho] at hoj; cases hoj
      exact getD_set_true (hall e hemem hb)
    · exact getD_set_true (h.shut j oj hoj ((hset j hj).resolve_left ej) e hemem hb)

theorem putAll_use {w' : World} (f : Nat → Value) : ∀ (l : List Oper) (k : Nat) (a : Act), PutAll R w' Q l k a → (∀ j, j < l.length → R (k + j) (f (k + j)) w') →
    Q .normal (l.zipIdx k |>.foldl (fun a x => a.put x.1.dst (f x.2)) a) w'
  | [], _, _, h, _ => h
  | o :: l, k, a, h, hf => by
    have := putAll_use f l (k + 1) _ (h (f k) (by simpa using hf 0 (by simp))) (fun j hj => by
      have := hf (j + 1) (by simpa using hj)
      rwa [show k + (j + 1) = k + 1 + j from by omega] at this)
    simpa [List.zipIdx_cons] using this

theorem foldl_put_keep (f : Nat → Value) (t : Tmp) : ∀ (l : List (Oper × Nat)) (a : Act), (∀ x ∈ l, x.1.dst ≠ some t) → (l.foldl (fun a x => a.put x.1.dst (f x.2)) a).tmps[t]? = a.tmps[t]?
  | [], _, _ => rfl
  | x :: l, a, h => by
    rw [List.foldl_cons, foldl_put_keep f t l _ (fun y hy => h y (by simp [hy]))]
    exact put_ne (h x (by simp))

theorem foldl_put_size (f : Nat → Value) : ∀ (l : List (Oper × Nat)) (a : Act), (l.foldl (fun a x => a.put x.1.dst (f x.2)) a).tmps.size = a.tmps.size ∧ (l.foldl (fun a x => a.put x.1.dst (f x.2)) a).defers = a.defers
  | [], _ => ⟨rfl, rfl⟩
  | x :: l, a => by
    rw [List.foldl_cons]
    exact ⟨(foldl_put_size f l _).1.trans put_size, (foldl_put_size f l _).2.trans put_defers⟩

theorem foldl_put_at (f : Nat → Value) (t : Tmp) (v : Value) : ∀ (l : List (Oper × Nat)) (a : Act), t < a.tmps.size → (∃ x ∈ l, x.1.dst = some t) → (∀ x ∈ l, x.1.dst = some t → f x.2 = v) →
    (l.foldl (fun a x => a.put x.1.dst (f x.2)) a).tmps[t]? = some v
  | [], _, _, h, _ => by obtain ⟨x, hx, _⟩ := h; simp at hx
  | x :: l, a, hs, h, hf => by
    rw [List.foldl_cons]
    by_cases hl : ∃ y ∈ l, y.1.dst = some t
    · exact foldl_put_at f t v l _ (by rw [put_size]; exact hs) hl fun y hy => hf y (by simp [hy])
    · rw [foldl_put_keep f t l _ (fun y hy e => hl ⟨y, hy, e⟩)]
      obtain ⟨y, hy, he⟩ := h
      have : y = x := by
        rcases List.mem_cons.1 hy with rfl | hy
        · rfl
        · exact (hl ⟨y, hy, he⟩).elim
      subst this
      rw [he, ← hf y (by simp) he]
      simp [Act.put, hs]

theorem getD_repl (n j : Nat) : (Array.replicate n false).getD j false = false := by
  rw [Array.getD_eq_getD_getElem?, Array.getElem?_replicate]
  split <;> rfl

def lastV (ops : Array Oper) (a : Act) (j : Nat) : Value := match (ops[j]?).bind (·.dst) with | some d => a.tmps.getD d undef | none => undef

/-- ████ THE LAW ████ -/
theorem wp_region_draws {id : Nat} (R : Nat → Value → World → Prop) (E : World → World → Prop) (hm : P.follows .mixedOrders = true) (hok : drawsOk ops a0.tmps.size = true)
    (hrf : ∀ w, E w w) (htr : ∀ w w' w'', E w w' → E w' w'' → E w w'') (hst : ∀ j v w w', R j v w → E w w' → R j v w')
    (hop : ∀ i o, ops[i]? = some o → ∀ (ρ : Operand → Value) (w : World), E w0.drew w → (∀ c, ρ (.const c) = c) → (∀ g, ρ (.global g) = .pointer (some ⟨g, 0, none⟩)) → (∀ f, ρ (.func f) = .func (.func f) #[] #[]) →
      GuF ops o R i ρ w (InF ops o R a0 ρ w o.op.operands.toList (OpOk P o ρ w fun v w' => E w w' ∧ R i (if o.dst.isSome then v else undef) w')))
    (hend : ∀ w', E w0.drew w' → PutAll R w' Q ops.toList 0 a0) : (Code.region id ops true).wp P Q a0 w0 := by
  refine wp_region_any hm ?_
  have key : ∀ (fuel : Nat) (listed : Array Bool) (a : Act) (w : World), listed.toList.count false ≤ fuel → DInv ops R E a0 w0.drew listed a w → wpAny P .any ops Q fuel listed a w := by
    -- all done: the end
    have fin : ∀ (listed : Array Bool) (a : Act) (w : World), Region.ready .any ops listed = [] → DInv ops R E a0 w0.drew listed a w → Q .normal a w := by
      intro listed a w hr h
      have all : ∀ n, ∀ i, i < n → ∀ o, ops[i]? = some o → listed.getD i false = true := by
        intro n
        induction n with
        | zero => intro i hi; omega
        | succ n ih =>
          intro i hi o ho
          rcases Nat.lt_or_ge i n with hlt | hge
          · exact ih i hlt o ho
          obtain rfl : i = n := by omega
          cases hc : listed.getD i true with
          | true =>
            have hlt : i < listed.size := by rw [h.lsize]; exact (Array.getElem?_eq_some_iff.1 ho).1
            simpa [hlt] using hc
          | false =>
            exfalso
            have : i ∈ Region.ready .any ops listed := mem_ready.2 ⟨hc, o, ho, fun e he hb => by
              have hlt := (drawsOk_spec hok ho).1 e he hb
              have : e.on < ops.size := by have := (Array.getElem?_eq_some_iff.1 ho).1; omega
              exact ih e.on hlt _ (Array.getElem?_eq_getElem this)⟩
            rw [hr] at this; simp at this
      have hdone : ∀ i o, ops[i]? = some o → listed.getD i false = true := fun i o ho => all (i + 1) i (by omega) o ho
      have hp := putAll_use (R := R) (Q := Q) (w' := w) (lastV ops a) ops.toList 0 a0 (hend w h.ext) (by
        intro j hj
        rw [Nat.zero_add]
        have hj' : j < ops.size := by simpa using hj
        have ho := Array.getElem?_eq_getElem hj'
        have := h.did j _ ho (hdone j _ ho)
        unfold lastV
        rw [ho]
        exact this)
      refine (congrArg (fun x => Q .normal x w) ?_).mp hp
      generalize hg : (List.foldl _ a0 (ops.toList.zipIdx 0)) = b
      have hbs : b.tmps.size = a.tmps.size ∧ b.defers = a.defers := by
        rw [← hg]
        exact ⟨(foldl_put_size _ _ _).1.trans h.size.symm, (foldl_put_size _ _ _).2.trans h.defers.symm⟩
      have hb : b.tmps = a.tmps := by
        refine Array.ext hbs.1 fun t h1 h2 => ?_
        have : b.tmps[t]? = a.tmps[t]? := by
          by_cases hd : ∃ x ∈ ops.toList.zipIdx 0, x.1.dst = some t
          · rw [← hg, foldl_put_at _ t (a.tmps[t]) _ a0 (by rw [← h.size]; exact h2) hd, Array.getElem?_eq_getElem h2]
            intro x hx hxd
            have := List.mem_zipIdx_iff_getElem?.1 hx
            rw [Array.getElem?_toList] at this
            unfold lastV
            rw [this]
            simp only [Option.bind_some, hxd]
            simp [h2]
          · rw [← hg, foldl_put_keep _ t _ _ (fun x hx e => hd ⟨x, hx, e⟩)]
            refine (h.keep t fun j o ho _ e => hd ⟨(o, j), ?_, e⟩).symm
            exact List.mem_zipIdx_iff_getElem?.2 (by rw [Array.getElem?_toList]; exact ho)
        rw [Array.getElem?_eq_getElem h1, Array.getElem?_eq_getElem h2] at this
        exact Option.some.inj this
      cases b; cases a
      simp only at hb hbs
      rw [hb, hbs.2]
    intro fuel
    induction fuel with
    | zero =>
      intro listed a w hc h
      have hr : Region.ready .any ops listed = [] := by
        cases hrr : Region.ready .any ops listed with
        | nil => rfl
        | cons i r =>
          have hi : i ∈ Region.ready .any ops listed := by rw [hrr]; simp
          obtain ⟨hun, o, ho, _⟩ := mem_ready.1 hi
          have hlt : i < listed.size := by rw [h.lsize]; exact (Array.getElem?_eq_some_iff.1 ho).1
          have : false ∈ listed.toList := by
            rw [Array.mem_toList_iff]
            have : listed[i] = false := by simpa [hlt] using hun
            rw [← this]; exact Array.getElem_mem hlt
          have := List.count_pos_iff.2 this
          omega
      exact ⟨hr, fin listed a w hr h⟩
    | succ fuel ih =>
      intro listed a w hc h
      refine ⟨fun hr => fin listed a w hr h, fun i hi => ?_⟩
      obtain ⟨hun, o, ho, hall⟩ := mem_ready.1 hi
      have hlt : i < listed.size := by rw [h.lsize]; exact (Array.getElem?_eq_some_iff.1 ho).1
      have hun' : listed[i] = false := by simpa [hlt] using hun
      have hcnt : (listed.setIfInBounds i true).toList.count false ≤ fuel := by
        have := count_set listed.toList i (by rw [Array.getElem?_toList, Array.getElem?_eq_getElem hlt, hun'])
        rw [Array.toList_setIfInBounds]
        omega
      have hsp := drawsOk_spec hok ho
      have go := hop i o ho a.eval w h.ext (fun _ => rfl) (fun _ => rfl) (fun _ => rfl)
      have hin : ∀ t, Operand.tmp t ∈ o.op.operands.toList → (match srcOf ops o t with | some j => R j (a.eval (.tmp t)) w | none => a.eval (.tmp t) = a0.eval (.tmp t)) := by
        intro t ht
        have htm : t ∈ tmpsOf o := List.mem_filterMap.2 ⟨_, ht, rfl⟩
        cases hs : srcOf ops o t with
        | some j =>
          obtain ⟨e, hemem, hb, rfl, o', ho', hd'⟩ := srcOf_spec hs
          have := h.did e.on o' ho' (hall e hemem hb)
          rw [hd'] at this
          exact this
        | none =>
          have := h.keep t fun j o' ho' hj hd' => by
            rcases hsp.2.2.1 t htm hs j o' ho' hd' with rfl | hw
            · have : listed.getD i false = false := by simp [hlt, hun']
              rw [this] at hj; cases hj
            · obtain ⟨e, hemem, hb, rfl⟩ := waitsB_spec hw
              have := h.shut j o' ho' hj e hemem hb
              have h2 : listed.getD e.on false = false := by simp [hlt, hun']
              rw [h2] at this; cases this
          simp only [Act.eval, Array.getD_eq_getD_getElem?, this]
      have run : OpOk P o a.eval w (fun v w' => E w w' ∧ R i (if o.dst.isSome then v else undef) w') →
          o.wp P a w (fun a' w' => wpAny P .any ops Q fuel (listed.setIfInBounds i true) a' w') Q := by
        intro hk
        unfold Oper.wp
        unfold OpOk at hk
        cases hrun : (execOp a.eval o).run P w with
        | halt x w' => rw [hrun] at hk; exact hk.elim
        | ok n w' =>
          rw [hrun] at hk
          cases n with
          | value v => exact ih _ _ _ hcnt (h.put hok hst htr ho hi hk.1 hk.2)
          | skip => exact ih _ _ _ hcnt (h.put hok hst htr ho hi hk.1 (by simpa using hk.2))
          | enter f args =>
            refine Calls.mono hk fun e w'' he => ?_
            obtain ⟨v, rfl, h1, h2⟩ := he
            exact ih _ _ _ hcnt (h.put hok hst htr ho hi h1 h2)
          | defer d => exact hk.elim
          | row r args => exact hk.elim
          | _ => exact hk.elim
      unfold wpOp
      rw [ho]
      simp only []
      cases hgd : o.guard with
      | none =>
        simp only [GuF, hgd] at go
        rw [if_pos (by simp [Region.wanted, hgd])]
        exact .inl (run (InF_use _ go hin))
      | some gb =>
        obtain ⟨g, b⟩ := gb
        simp only [GuF, hgd] at go
        obtain ⟨hwg, og, dg, hog, hdg⟩ := hsp.2.2.2.1 g b hgd
        obtain ⟨e, hemem, hb, rfl⟩ := waitsB_spec hwg
        have hR := h.did e.on og hog (hall e hemem hb)
        rw [hdg] at hR
        have hdl : dg < a.tmps.size := by rw [h.size]; exact ((drawsOk_spec hok hog).2.1 dg hdg).1
        obtain ⟨g1, g2⟩ := go _ hR
        have hyield : yielded ops a.tmps e.on = match a.tmps.getD dg undef with | .bool b => some b | _ => none := by
          simp only [yielded, hog, Option.bind_some, hdg, Array.getElem?_eq_getElem hdl, Array.getD_eq_getD_getElem?, Option.getD_some]
          generalize a.tmps[dg] = x
          cases x <;> rfl
        by_cases hyes : a.tmps.getD dg undef = .bool b
        · rw [if_pos (by simp [Region.wanted, hgd, hyield, hyes])]
          exact .inl (run (InF_use _ (g1 hyes) hin))
        · rw [if_neg (by
            simp only [Region.wanted, hgd, hyield]
            intro hh
            apply hyes
            split at hh
            · rename_i b' hb'
              rw [hb']
              simp at hh
              rw [hh]
            · simp at hh)]
          exact ih _ _ _ hcnt (h.put hok hst htr ho hi (hrf _) (by simpa using g2 hyes))
  refine key ops.size _ a0 _ (by simp) ⟨rfl, rfl, by simp, hrf _, ?_, fun _ _ => rfl, ?_⟩
  · intro j o ho hj; rw [getD_repl] at hj; cases hj
  · intro j o ho hj; rw [getD_repl] at hj; cases hj

/-- the operations one by one -/
def AllOps (P : Program) (ops : Array Oper) (R : Nat → Value → World → Prop) (E : World → World → Prop) (a0 : Act) (w0 : World) : List Oper → Nat → Prop
  | [], _ => True
  | o :: r, i => (∀ (ρ : Operand → Value) (w : World), E w0 w → (∀ c, ρ (.const c) = c) → (∀ g, ρ (.global g) = .pointer (some ⟨g, 0, none⟩)) → (∀ f, ρ (.func f) = .func (.func f) #[] #[]) →
      GuF ops o R i ρ w (InF ops o R a0 ρ w o.op.operands.toList (OpOk P o ρ w fun v w' => E w w' ∧ R i (if o.dst.isSome then v else undef) w'))) ∧ AllOps P ops R E a0 w0 r (i + 1)

theorem AllOps.get : ∀ (l : List Oper) (k : Nat), AllOps P ops R E a0 w0 l k → ∀ i o, l[i]? = some o → (∀ (ρ : Operand → Value) (w : World), E w0 w → (∀ c, ρ (.const c) = c) → (∀ g, ρ (.global g) = .pointer (some ⟨g, 0, none⟩)) → (∀ f, ρ (.func f) = .func (.func f) #[] #[]) →
      GuF ops o R (k + i) ρ w (InF ops o R a0 ρ w o.op.operands.toList (OpOk P o ρ w fun v w' => E w w' ∧ R (k + i) (if o.dst.isSome then v else undef) w')))
  | [], _, _, i, o, h => by simp at h
  | o :: l, k, h, 0, o', h' => by
    simp only [List.getElem?_cons_zero, Option.some.injEq] at h'
    subst h'
    exact h.1
  | o :: l, k, h, i + 1, o', h' => by
    have := AllOps.get l (k + 1) h.2 i o' (by simpa using h')
    rwa [show k + 1 + i = k + (i + 1) from by omega] at this

/-- THE LAW, with 'what was there is there' from step to step. -/
theorem wp_region_below {id : Nat} {l : List Oper} (R : Nat → Value → World → Prop) (hm : P.follows .mixedOrders = true) (hok : drawsOk l.toArray a0.tmps.size = true)
    (hst : ∀ j v w w', R j v w → Below w.heap.size w w' → R j v w')
    (hop : AllOps P l.toArray R (fun w w' => Below w.heap.size w w') a0 w0 l 0)
    (hend : ∀ w', Below w0.heap.size w0 w' → PutAll R w' Q l 0 a0) : (Code.region id l.toArray true).wp P Q a0 w0 := by
  refine wp_region_draws R (fun w w' => Below w.heap.size w w') hm hok (fun w => Below.refl _ _) (fun w w' w'' h h' => h.trans (h'.mono h.size)) hst ?_ ?_
  · intro i o ho
    have := AllOps.get l 0 hop i o (by simpa using ho)
    rw [Nat.zero_add] at this
    exact fun ρ w hE => this ρ w ((below_drew _).trans hE)
  · intro w' h
    exact hend w' ((below_drew _).trans h)

theorem opOk_move {o : Oper} {ρ : Operand → Value} {w : World} {K : Value → World → Prop} (x : Operand) (h : o.op = .move x) (hk : K (ρ x) w) : OpOk P o ρ w K := by
  unfold OpOk; simp only [execOp, h, Sem.run_pure]; exact hk
theorem opOk_assign {o : Oper} {ρ : Operand → Value} {w : World} {K : Value → World → Prop} (x : Operand) (h : o.op = .assign x) (hk : K (ρ x) w) : OpOk P o ρ w K := by
  unfold OpOk; simp only [execOp, h, Sem.run_pure]; exact hk
theorem opOk_run {o : Oper} {ρ : Operand → Value} {w w' : World} {K : Value → World → Prop} {v : Value} (h : (execOp ρ o).run P w = .ok (.value v) w') (hk : K v w') : OpOk P o ρ w K := by
  unfold OpOk; rw [h]; exact hk
theorem opOk_call {o : Oper} {ρ : Operand → Value} {w : World} {K : Value → World → Prop} {f : FuncId} {args : Array Value} (h : (execOp ρ o).run P w = .ok (.enter f args) w) (hk : Calls P f args w fun e w'' => ∃ v, e = .returned v ∧ K v w'') : OpOk P o ρ w K := by
  unfold OpOk; rw [h]; exact hk

theorem opOk_slice {o : Oper} {ρ : Operand → Value} {w : World} {K : Value → World → Prop} (t : TypeId) (x : Operand) (lo hi' : Option Operand) (ho : o.op = Op.slice t x lo hi' none)
    (e : TypeId) (info : TypeInfo) (sz : Nat) (ht : P.underlying t = some (.slice e)) (hi : P.info? e = some info) (hz : info.size = sz) (hs : 0 < sz)
    {a : Option Addr} {n cap : Nat} {xs : List Value} (hx : ρ x = .slice a n cap) (h : CS w a cap sz xs) (i j : Nat)
    (hlo : lo.map ρ = some (.int .i64 (i : Int)) ∨ (lo = none ∧ i = 0)) (hhi : hi'.map ρ = some (.int .i64 (j : Int)) ∨ (hi' = none ∧ j = n)) (hij : i ≤ j) (hj : j ≤ cap)
    (hK : ∀ a', CS w a' (cap - i) sz (xs.drop (i * sz)) → K (.slice a' (j - i) (cap - i)) w) : OpOk P o ρ w K := by
  obtain ⟨a', hr, hc⟩ := run_slice_cut (P := P) (w := w) t e info sz ht hi hz hs (n := n) h (lo.map ρ) (hi'.map ρ) i j
    (hlo.imp id fun ⟨h1, h2⟩ => ⟨by rw [h1]; rfl, h2⟩) (hhi.imp id fun ⟨h1, h2⟩ => ⟨by rw [h1]; rfl, h2⟩) hij hj
  refine opOk_run (v := .slice a' (j - i) (cap - i)) (w' := w) ?_ (hK a' hc)
  simp only [execOp, ho, hx, Sem.run_bind, Result.andThen, Sem.run_pure]
  simp [hr, Instr.sliceAt, run_underlying ht, Result.andThen]
end

end Go.Quad
