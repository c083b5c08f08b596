/- A law for a statement whose order is open: each operation is shown once, at whatever world it meets, out of what the operations that it must wait for have left; then the whole statement holds, in whatever order. (Several texts in one: Draws, States.) -/
import Derived.Test.YtoapibbbooongaaDoorLib
import Derived.Deep.MidRow
import Derived.Laws.CopyOwn
import Derived.Great.BuildSlice
import Derived.Maps.AppendAt

/- A law for a statement whose order is open: each operation is shown once, at whatever world it meets, out of what the operations that it must wait for have left; then the whole statement holds, in whatever order. -/
namespace Go.Quad
open Go.RowKit

/-- which operation, of those that i waits for, fills slot t -/
def srcOf (ops : Array Oper) (o : Oper) (t : Tmp) : Option Nat :=
  (o.after.toList.find? fun e => Region.binds .any e && ((ops[e.on]?).bind (·.dst)) == some t).map (·.on)

def tmpsOf (o : Oper) : List Tmp := o.op.operands.toList.filterMap fun | .tmp t => some t | _ => none

def waitsB (o : Oper) (i : Nat) : Bool := o.after.any fun e => Region.binds .any e && e.on == i

def notSelect : Op → Bool
  | .select .. => false
  | _ => true

/-- the check over the statement's text -/
def drawsOk (ops : Array Oper) (n : Nat) : Bool :=
  ops.zipIdx.toList.all fun (o, i) =>
    (o.after.all fun e => !Region.binds .any e || e.on < i) &&
    (match o.dst with | some d => decide (d < n) && (ops.zipIdx.toList.all fun (o', j) => o'.dst != some d || i == j) | none => true) &&
    ((tmpsOf o).all fun t => (srcOf ops o t).isSome || (ops.zipIdx.toList.all fun (o', j) => o'.dst != some t || i == j || waitsB o' i)) &&
    (match o.guard with | some (g, _) => waitsB o g && ((ops[g]?).bind (·.dst)).isSome | none => true) &&
    notSelect o.op

/-- what an operation is asked to end in -/
def OpOk (P : Program) (o : Oper) (ρ : Operand → Value) (w : World) (R : Value → World → Prop) : Prop :=
  match (execOp ρ o).run P w with
  | .ok (.value v) w' => R v w'
  | .ok .skip w' => R undef w'
  | .ok (.enter f args) w' => Calls P f args w' fun e w'' => ∃ v, e = .returned v ∧ R v w''
  | _ => False

/-- what is known of the slots that an operation reads -/
def InF (ops : Array Oper) (o : Oper) (R : Nat → Value → World → Prop) (a0 : Act) (ρ : Operand → Value) (w : World) : List Operand → Prop → Prop
  | [], C => C
  | .tmp t :: r, C => (match srcOf ops o t with | some j => R j (ρ (.tmp t)) w | none => ρ (.tmp t) = a0.eval (.tmp t)) → InF ops o R a0 ρ w r C
  | _ :: r, C => InF ops o R a0 ρ w r C

def GuF (_ops : Array Oper) (o : Oper) (R : Nat → Value → World → Prop) (i : Nat) (_ρ : Operand → Value) (w : World) (C : Prop) : Prop :=
  match o.guard with
  | none => C
  | some (g, want) => ∀ u, R g u w → (u = .bool want → C) ∧ (u ≠ .bool want → R i undef w)

def PutAll (R : Nat → Value → World → Prop) (w' : World) (Q : Exit → Act → World → Prop) : List Oper → Nat → Act → Prop
  | [], _, a => Q .normal a w'
  | o :: r, i, a => ∀ v, R i v w' → PutAll R w' Q r (i + 1) (a.put o.dst v)

structure DInv (ops : Array Oper) (R : Nat → Value → World → Prop) (E : World → World → Prop) (a0 : Act) (w0 : World) (listed : Array Bool) (a : Act) (w : World) : Prop where
  defers : a.defers = a0.defers
  size : a.tmps.size = a0.tmps.size
  lsize : listed.size = ops.size
  ext : E w0 w
  did : ∀ j o, ops[j]? = some o → listed.getD j false = true → R j (match o.dst with | some d => a.tmps.getD d undef | none => undef) w
  keep : ∀ t, (∀ j o, ops[j]? = some o → listed.getD j false = true → o.dst ≠ some t) → a.tmps[t]? = a0.tmps[t]?
  shut : ∀ j o, ops[j]? = some o → listed.getD j false = true → ∀ e ∈ o.after, Region.binds .any e = true → listed.getD e.on false = true

theorem zipIdx_all {ops : Array Oper} {f : Oper × Nat → Bool} (h : ops.zipIdx.toList.all f = true) {i : Nat} {o : Oper} (ho : ops[i]? = some o) : f (o, i) = true := by
  rw [List.all_eq_true] at h
  apply h
  rw [Array.mem_toList_iff, Array.mem_iff_getElem?]
  exact ⟨i, by simp [ho]⟩

section
variable {P : Program} {ops : Array Oper} {R : Nat → Value → World → Prop} {E : World → World → Prop} {a0 : Act} {w0 : World} {Q : Exit → Act → World → Prop}

theorem drawsOk_spec (h : drawsOk ops a0.tmps.size = true) {i : Nat} {o : Oper} (ho : ops[i]? = some o) :
    (∀ e ∈ o.after, Region.binds .any e = true → e.on < i) ∧
    (∀ d, o.dst = some d → d < a0.tmps.size ∧ ∀ j o', ops[j]? = some o' → o'.dst = some d → i = j) ∧
    (∀ t ∈ tmpsOf o, srcOf ops o t = none → ∀ j o', ops[j]? = some o' → o'.dst = some t → i = j ∨ waitsB o' i = true) ∧
    (∀ g b, o.guard = some (g, b) → waitsB o g = true ∧ ∃ og dg, ops[g]? = some og ∧ og.dst = some dg) ∧ notSelect o.op = true := by
  have hh := zipIdx_all h ho
  simp only [Bool.and_eq_true] at hh
  obtain ⟨⟨⟨⟨h1, h2⟩, h3⟩, h4⟩, h5⟩ := hh
  refine ⟨?_, ?_, ?_, ?_, h5⟩
  · intro e he hb
    rw [Array.all_eq_true_iff_forall_mem] at h1
    have := h1 e he
    simpa [hb] using this
  · intro d hd
    rw [hd] at h2
    simp only [Bool.and_eq_true, decide_eq_true_eq] at h2
    refine ⟨h2.1, fun j o' ho' hd' => ?_⟩
    have := zipIdx_all h2.2 ho'
    simpa [hd'] using this
  · intro t ht hs j o' ho' hd'
    rw [List.all_eq_true] at h3
    have h3' := h3 t ht
    rw [hs] at h3'
    simp only [Option.isSome_none, Bool.false_or] at h3'
    have := zipIdx_all h3' ho'
    simpa [hd'] using this
  · intro g b hg
    rw [hg] at h4
    simp only [Bool.and_eq_true] at h4
    refine ⟨h4.1, ?_⟩
    have h42 := h4.2
    cases hog : ops[g]? with
    | none => rw [hog] at h42; simp at h42
    | some og =>
      rw [hog] at h42
      simp only [Option.bind_some] at h42
      obtain ⟨dg, hdg⟩ := Option.isSome_iff_exists.1 h42
      exact ⟨og, dg, rfl, hdg⟩

theorem waitsB_spec {o : Oper} {i : Nat} (h : waitsB o i = true) : ∃ e ∈ o.after, Region.binds .any e = true ∧ e.on = i := by
  unfold waitsB at h
  rw [Array.any_eq_true'] at h
  obtain ⟨e, he, hb⟩ := h
  simp only [Bool.and_eq_true, beq_iff_eq] at hb
  exact ⟨e, he, hb.1, hb.2⟩

theorem srcOf_spec {o : Oper} {t : Tmp} {j : Nat} (h : srcOf ops o t = some j) : ∃ e ∈ o.after, Region.binds .any e = true ∧ e.on = j ∧ ∃ o', ops[j]? = some o' ∧ o'.dst = some t := by
  unfold srcOf at h
  rw [Option.map_eq_some_iff] at h
  obtain ⟨e, he, rfl⟩ := h
  have hm := List.mem_of_find?_eq_some he
  have hp := List.find?_some he
  simp only [Bool.and_eq_true, beq_iff_eq] at hp
  refine ⟨e, Array.mem_toList_iff.1 hm, hp.1, rfl, ?_⟩
  cases ho' : ops[e.on]? with
  | none => rw [ho'] at hp; simp at hp
  | some o' => rw [ho'] at hp; exact ⟨o', rfl, by simpa using hp.2⟩

theorem InF_use {o : Oper} {ρ : Operand → Value} {w : World} {C : Prop} : ∀ (l : List Operand), InF ops o R a0 ρ w l C →
    (∀ t, Operand.tmp t ∈ l → (match srcOf ops o t with | some j => R j (ρ (.tmp t)) w | none => ρ (.tmp t) = a0.eval (.tmp t))) → C
  | [], h, _ => h
  | .tmp t :: r, h, hf => InF_use r (h (hf t (by simp))) fun t ht => hf t (by simp [ht])
  | .const _ :: r, h, hf => InF_use r h fun t ht => hf t (by simp [ht])
  | .global _ :: r, h, hf => InF_use r h fun t ht => hf t (by simp [ht])
  | .func _ :: r, h, hf => InF_use r h fun t ht => hf t (by simp [ht])

theorem count_set : ∀ (l : List Bool) (i : Nat), l[i]? = some false → (l.set i true).count false + 1 = l.count false
  | [], i, h => by simp at h
  | b :: l, 0, h => by simp at h; subst h; simp
  | b :: l, i + 1, h => by
    have := count_set l i (by simpa using h)
    cases b <;> simp at * <;> omega

theorem put_at {a : Act} {d : Tmp} {v : Value} (hd : d < a.tmps.size) : (a.put (some d) v).tmps.getD d undef = v := by
  simp [Act.put, hd]

theorem put_ne {a : Act} {dst : Option Tmp} {v : Value} {t : Tmp} (h : dst ≠ some t) : (a.put dst v).tmps[t]? = a.tmps[t]? := by
  cases dst with
  | none => rfl
  | some d => simp only [Act.put]; exact Array.getElem?_setIfInBounds_ne (fun e => h (by rw [e]))

theorem put_size {a : Act} {dst : Option Tmp} {v : Value} : (a.put dst v).tmps.size = a.tmps.size := by
  cases dst <;> simp [Act.put]

theorem put_defers {a : Act} {dst : Option Tmp} {v : Value} : (a.put dst v).defers = a.defers := by
  cases dst <;> rfl

theorem DInv.put (hok : drawsOk ops a0.tmps.size = true) (htr : ∀ w w' w'', E w w' → E w' w'' → E w w'')
    {listed : Array Bool} {a : Act} {w w' : World} {i : Nat} {o : Oper} {v : Value} {R2 : Nat → Value → World → Prop} (hst : ∀ j v, j ≠ i → listed.getD j false = true → R j v w → R2 j v w') (h : DInv ops R E a0 w0 listed a w) (ho : ops[i]? = some o) (hr : i ∈ Region.ready .any ops listed)
    (he : E w w') (hv : R2 i (if o.dst.isSome then v else undef) w') : DInv ops R2 E a0 w0 (listed.setIfInBounds i true) (a.put o.dst v) w' := by
  obtain ⟨hun, o1, ho1, hall⟩ := mem_ready.1 hr
  rw [ho] at ho1; cases ho1
  have hilt : i < ops.size := (Array.getElem?_eq_some_iff.1 ho).1
  have hset : ∀ j, (listed.setIfInBounds i true).getD j false = true → j = i ∨ listed.getD j false = true := by
    intro j hj
    by_cases e : j = i
    · exact .inl e
    · right; rwa [getD_set_ne false (Ne.symm e)] at hj
  refine ⟨put_defers.trans h.defers, put_size.trans h.size, by simp [h.lsize], htr _ _ _ h.ext he, ?_, ?_, ?_⟩
  · intro j oj hoj hj
    by_cases e : j = i
    · subst e
      rw [ho] at hoj; cases hoj
      cases hd : o.dst with
      | none => rw [hd] at hv; simpa using hv
      | some d =>
        rw [hd] at hv
        have := ((drawsOk_spec hok ho).2.1 d hd).1
        simp only []
        rw [put_at (by rw [h.size]; exact this)]
        simpa using hv
    · have hj' := (hset j hj).resolve_left e
      have := hst _ _ e hj' (h.did j oj hoj hj')
      cases hd : oj.dst with
      | none => rw [hd] at this; exact this
      | some d =>
        rw [hd] at this
        have hne : o.dst ≠ some d := fun e' => e (((drawsOk_spec hok ho).2.1 d e').2 j oj hoj hd).symm
        simp only [Array.getD_eq_getD_getElem?] at this ⊢
        rw [put_ne hne]
        exact this
  · intro t ht
    have hne : o.dst ≠ some t := ht i o ho (by
      rw [Array.getD_eq_getD_getElem?, Array.getElem?_setIfInBounds]
      have : i < listed.size := by rw [h.lsize]; exact hilt
      simp [this])
    rw [put_ne hne]
    exact h.keep t fun j oj hoj hj => ht j oj hoj (getD_set_true hj)
  · intro j oj hoj hj e hemem hb
    by_cases ej : j = i
    · subst ej
      rw [ho] at hoj; cases hoj
      exact getD_set_true (hall e hemem hb)
    · exact getD_set_true (h.shut j oj hoj ((hset j hj).resolve_left ej) e hemem hb)

theorem putAll_use {w' : World} (f : Nat → Value) : ∀ (l : List Oper) (k : Nat) (a : Act), PutAll R w' Q l k a → (∀ j, j < l.length → R (k + j) (f (k + j)) w') →
    Q .normal (l.zipIdx k |>.foldl (fun a x => a.put x.1.dst (f x.2)) a) w'
  | [], _, _, h, _ => h
  | o :: l, k, a, h, hf => by
    have := putAll_use f l (k + 1) _ (h (f k) (by simpa using hf 0 (by simp))) (fun j hj => by
      have := hf (j + 1) (by simpa using hj)
      rwa [show k + (j + 1) = k + 1 + j from by omega] at this)
    simpa [List.zipIdx_cons] using this

theorem foldl_put_keep (f : Nat → Value) (t : Tmp) : ∀ (l : List (Oper × Nat)) (a : Act), (∀ x ∈ l, x.1.dst ≠ some t) → (l.foldl (fun a x => a.put x.1.dst (f x.2)) a).tmps[t]? = a.tmps[t]?
  | [], _, _ => rfl
  | x :: l, a, h => by
    rw [List.foldl_cons, foldl_put_keep f t l _ (fun y hy => h y (by simp [hy]))]
    exact put_ne (h x (by simp))

theorem foldl_put_size (f : Nat → Value) : ∀ (l : List (Oper × Nat)) (a : Act), (l.foldl (fun a x => a.put x.1.dst (f x.2)) a).tmps.size = a.tmps.size ∧ (l.foldl (fun a x => a.put x.1.dst (f x.2)) a).defers = a.defers
  | [], _ => ⟨rfl, rfl⟩
  | x :: l, a => by
    rw [List.foldl_cons]
    exact ⟨(foldl_put_size f l _).1.trans put_size, (foldl_put_size f l _).2.trans put_defers⟩

theorem foldl_put_at (f : Nat → Value) (t : Tmp) (v : Value) : ∀ (l : List (Oper × Nat)) (a : Act), t < a.tmps.size → (∃ x ∈ l, x.1.dst = some t) → (∀ x ∈ l, x.1.dst = some t → f x.2 = v) →
    (l.foldl (fun a x => a.put x.1.dst (f x.2)) a).tmps[t]? = some v
  | [], _, _, h, _ => by obtain ⟨x, hx, _⟩ := h; simp at hx
  | x :: l, a, hs, h, hf => by
    rw [List.foldl_cons]
    by_cases hl : ∃ y ∈ l, y.1.dst = some t
    · exact foldl_put_at f t v l _ (by rw [put_size]; exact hs) hl fun y hy => hf y (by simp [hy])
    · rw [foldl_put_keep f t l _ (fun y hy e => hl ⟨y, hy, e⟩)]
      obtain ⟨y, hy, he⟩ := h
      have : y = x := by
        rcases List.mem_cons.1 hy with rfl | hy
        · rfl
        · exact (hl ⟨y, hy, he⟩).elim
      subst this
      rw [he, ← hf y (by simp) he]
      simp [Act.put, hs]

theorem getD_repl (n j : Nat) : (Array.replicate n false).getD j false = false := by
  rw [Array.getD_eq_getD_getElem?, Array.getElem?_replicate]
  split <;> rfl

def lastV (ops : Array Oper) (a : Act) (j : Nat) : Value := match (ops[j]?).bind (·.dst) with | some d => a.tmps.getD d undef | none => undef

/-- ████ THE LAW ████ -/
theorem wp_region_draws {id : Nat} (R : Nat → Value → World → Prop) (E : World → World → Prop) (hm : P.follows .mixedOrders = true) (hok : drawsOk ops a0.tmps.size = true)
    (hrf : ∀ w, E w w) (htr : ∀ w w' w'', E w w' → E w' w'' → E w w'') (hst : ∀ j v w w', R j v w → E w w' → R j v w')
    (hop : ∀ i o, ops[i]? = some o → ∀ (ρ : Operand → Value) (w : World), E w0.drew w → (∀ c, ρ (.const c) = c) → (∀ g, ρ (.global g) = .pointer (some ⟨g, 0, none⟩)) → (∀ f, ρ (.func f) = .func (.func f) #[] #[]) →
      GuF ops o R i ρ w (InF ops o R a0 ρ w o.op.operands.toList (OpOk P o ρ w fun v w' => E w w' ∧ R i (if o.dst.isSome then v else undef) w')))
    (hend : ∀ w', E w0.drew w' → PutAll R w' Q ops.toList 0 a0) : (Code.region id ops true).wp P Q a0 w0 := by
  refine wp_region_any hm ?_
  have key : ∀ (fuel : Nat) (listed : Array Bool) (a : Act) (w : World), listed.toList.count false ≤ fuel → DInv ops R E a0 w0.drew listed a w → wpAny P .any ops Q fuel listed a w := by
    -- all done: the end
    have fin : ∀ (listed : Array Bool) (a : Act) (w : World), Region.ready .any ops listed = [] → DInv ops R E a0 w0.drew listed a w → Q .normal a w := by
      intro listed a w hr h
      have all : ∀ n, ∀ i, i < n → ∀ o, ops[i]? = some o → listed.getD i false = true := by
        intro n
        induction n with
        | zero => intro i hi; omega
        | succ n ih =>
          intro i hi o ho
          rcases Nat.lt_or_ge i n with hlt | hge
          · exact ih i hlt o ho
          obtain rfl : i = n := by omega
          cases hc : listed.getD i true with
          | true =>
            have hlt : i < listed.size := by rw [h.lsize]; exact (Array.getElem?_eq_some_iff.1 ho).1
            simpa [hlt] using hc
          | false =>
            exfalso
            have : i ∈ Region.ready .any ops listed := mem_ready.2 ⟨hc, o, ho, fun e he hb => by
              have hlt := (drawsOk_spec hok ho).1 e he hb
              have : e.on < ops.size := by have := (Array.getElem?_eq_some_iff.1 ho).1; omega
              exact ih e.on hlt _ (Array.getElem?_eq_getElem this)⟩
            rw [hr] at this; simp at this
      have hdone : ∀ i o, ops[i]? = some o → listed.getD i false = true := fun i o ho => all (i + 1) i (by omega) o ho
      have hp := putAll_use (R := R) (Q := Q) (w' := w) (lastV ops a) ops.toList 0 a0 (hend w h.ext) (by
        intro j hj
        rw [Nat.zero_add]
        have hj' : j < ops.size := by simpa using hj
        have ho := Array.getElem?_eq_getElem hj'
        have := h.did j _ ho (hdone j _ ho)
        unfold lastV
        rw [ho]
        exact this)
      refine (congrArg (fun x => Q .normal x w) ?_).mp hp
      generalize hg : (List.foldl _ a0 (ops.toList.zipIdx 0)) = b
      have hbs : b.tmps.size = a.tmps.size ∧ b.defers = a.defers := by
        rw [← hg]
        exact ⟨(foldl_put_size _ _ _).1.trans h.size.symm, (foldl_put_size _ _ _).2.trans h.defers.symm⟩
      have hb : b.tmps = a.tmps := by
        refine Array.ext hbs.1 fun t h1 h2 => ?_
        have : b.tmps[t]? = a.tmps[t]? := by
          by_cases hd : ∃ x ∈ ops.toList.zipIdx 0, x.1.dst = some t
          · rw [← hg, foldl_put_at _ t (a.tmps[t]) _ a0 (by rw [← h.size]; exact h2) hd, Array.getElem?_eq_getElem h2]
            intro x hx hxd
            have := List.mem_zipIdx_iff_getElem?.1 hx
            rw [Array.getElem?_toList] at this
            unfold lastV
            rw [this]
            simp only [Option.bind_some, hxd]
            simp [h2]
          · rw [← hg, foldl_put_keep _ t _ _ (fun x hx e => hd ⟨x, hx, e⟩)]
            refine (h.keep t fun j o ho _ e => hd ⟨(o, j), ?_, e⟩).symm
            exact List.mem_zipIdx_iff_getElem?.2 (by rw [Array.getElem?_toList]; exact ho)
        rw [Array.getElem?_eq_getElem h1, Array.getElem?_eq_getElem h2] at this
        exact Option.some.inj this
      cases b; cases a
      simp only at hb hbs
      rw [hb, hbs.2]
    intro fuel
    induction fuel with
    | zero =>
      intro listed a w hc h
      have hr : Region.ready .any ops listed = [] := by
        cases hrr : Region.ready .any ops listed with
        | nil => rfl
        | cons i r =>
          have hi : i ∈ Region.ready .any ops listed := by rw [hrr]; simp
          obtain ⟨hun, o, ho, _⟩ := mem_ready.1 hi
          have hlt : i < listed.size := by rw [h.lsize]; exact (Array.getElem?_eq_some_iff.1 ho).1
          have : false ∈ listed.toList := by
            rw [Array.mem_toList_iff]
            have : listed[i] = false := by simpa [hlt] using hun
            rw [← this]; exact Array.getElem_mem hlt
          have := List.count_pos_iff.2 this
          omega
      exact ⟨hr, fin listed a w hr h⟩
    | succ fuel ih =>
      intro listed a w hc h
      refine ⟨fun hr => fin listed a w hr h, fun i hi => ?_⟩
      obtain ⟨hun, o, ho, hall⟩ := mem_ready.1 hi
      have hlt : i < listed.size := by rw [h.lsize]; exact (Array.getElem?_eq_some_iff.1 ho).1
      have hun' : listed[i] = false := by simpa [hlt] using hun
      have hcnt : (listed.setIfInBounds i true).toList.count false ≤ fuel := by
        have := count_set listed.toList i (by rw [Array.getElem?_toList, Array.getElem?_eq_getElem hlt, hun'])
        rw [Array.toList_setIfInBounds]
        omega
      have hsp := drawsOk_spec hok ho
      have go := hop i o ho a.eval w h.ext (fun _ => rfl) (fun _ => rfl) (fun _ => rfl)
      have hin : ∀ t, Operand.tmp t ∈ o.op.operands.toList → (match srcOf ops o t with | some j => R j (a.eval (.tmp t)) w | none => a.eval (.tmp t) = a0.eval (.tmp t)) := by
        intro t ht
        have htm : t ∈ tmpsOf o := List.mem_filterMap.2 ⟨_, ht, rfl⟩
        cases hs : srcOf ops o t with
        | some j =>
          obtain ⟨e, hemem, hb, rfl, o', ho', hd'⟩ := srcOf_spec hs
          have := h.did e.on o' ho' (hall e hemem hb)
          rw [hd'] at this
          exact this
        | none =>
          have := h.keep t fun j o' ho' hj hd' => by
            rcases hsp.2.2.1 t htm hs j o' ho' hd' with rfl | hw
            · have : listed.getD i false = false := by simp [hlt, hun']
              rw [this] at hj; cases hj
            · obtain ⟨e, hemem, hb, rfl⟩ := waitsB_spec hw
              have := h.shut j o' ho' hj e hemem hb
              have h2 : listed.getD e.on false = false := by simp [hlt, hun']
              rw [h2] at this; cases this
          simp only [Act.eval, Array.getD_eq_getD_getElem?, this]
      have run : OpOk P o a.eval w (fun v w' => E w w' ∧ R i (if o.dst.isSome then v else undef) w') →
          o.wp P a w (fun a' w' => wpAny P .any ops Q fuel (listed.setIfInBounds i true) a' w') Q := by
        intro hk
        unfold Oper.wp
        unfold OpOk at hk
        cases hrun : (execOp a.eval o).run P w with
        | halt x w' => rw [hrun] at hk; exact hk.elim
        | ok n w' =>
          rw [hrun] at hk
          cases n with
          | value v => exact ih _ _ _ hcnt (h.put hok htr (fun j v _ _ hj => hst j v _ _ hj hk.1) ho hi hk.1 hk.2)
          | skip => exact ih _ _ _ hcnt (h.put hok htr (fun j v _ _ hj => hst j v _ _ hj hk.1) ho hi hk.1 (by simpa using hk.2))
          | enter f args =>
            refine Calls.mono hk fun e w'' he => ?_
            obtain ⟨v, rfl, h1, h2⟩ := he
            exact ih _ _ _ hcnt (h.put hok htr (fun j v _ _ hj => hst j v _ _ hj h1) ho hi h1 h2)
          | defer d => exact hk.elim
          | row r args => exact hk.elim
          | _ => exact hk.elim
      unfold wpOp
      rw [ho]
      simp only []
      cases hgd : o.guard with
      | none =>
        simp only [GuF, hgd] at go
        rw [if_pos (by simp [Region.wanted, hgd])]
        exact .inl (run (InF_use _ go hin))
      | some gb =>
        obtain ⟨g, b⟩ := gb
        simp only [GuF, hgd] at go
        obtain ⟨hwg, og, dg, hog, hdg⟩ := hsp.2.2.2.1 g b hgd
        obtain ⟨e, hemem, hb, rfl⟩ := waitsB_spec hwg
        have hR := h.did e.on og hog (hall e hemem hb)
        rw [hdg] at hR
        have hdl : dg < a.tmps.size := by rw [h.size]; exact ((drawsOk_spec hok hog).2.1 dg hdg).1
        obtain ⟨g1, g2⟩ := go _ hR
        have hyield : yielded ops a.tmps e.on = match a.tmps.getD dg undef with | .bool b => some b | _ => none := by
          simp only [yielded, hog, Option.bind_some, hdg, Array.getElem?_eq_getElem hdl, Array.getD_eq_getD_getElem?, Option.getD_some]
          generalize a.tmps[dg] = x
          cases x <;> rfl
        by_cases hyes : a.tmps.getD dg undef = .bool b
        · rw [if_pos (by simp [Region.wanted, hgd, hyield, hyes])]
          exact .inl (run (InF_use _ (g1 hyes) hin))
        · rw [if_neg (by
            simp only [Region.wanted, hgd, hyield]
            intro hh
            apply hyes
            split at hh
            · rename_i b' hb'
              rw [hb']
              simp at hh
              rw [hh]
            · simp at hh)]
          exact ih _ _ _ hcnt (h.put hok htr (fun j v _ _ hj => hj) ho hi (hrf _) (by simpa using g2 hyes))
  refine key ops.size _ a0 _ (by simp) ⟨rfl, rfl, by simp, hrf _, ?_, fun _ _ => rfl, ?_⟩
  · intro j o ho hj; rw [getD_repl] at hj; cases hj
  · intro j o ho hj; rw [getD_repl] at hj; cases hj

/-- the operations one by one -/
def AllOps (P : Program) (ops : Array Oper) (R : Nat → Value → World → Prop) (E : World → World → Prop) (a0 : Act) (w0 : World) : List Oper → Nat → Prop
  | [], _ => True
  | o :: r, i => (∀ (ρ : Operand → Value) (w : World), E w0 w → (∀ c, ρ (.const c) = c) → (∀ g, ρ (.global g) = .pointer (some ⟨g, 0, none⟩)) → (∀ f, ρ (.func f) = .func (.func f) #[] #[]) →
      GuF ops o R i ρ w (InF ops o R a0 ρ w o.op.operands.toList (OpOk P o ρ w fun v w' => E w w' ∧ R i (if o.dst.isSome then v else undef) w'))) ∧ AllOps P ops R E a0 w0 r (i + 1)

theorem AllOps.get : ∀ (l : List Oper) (k : Nat), AllOps P ops R E a0 w0 l k → ∀ i o, l[i]? = some o → (∀ (ρ : Operand → Value) (w : World), E w0 w → (∀ c, ρ (.const c) = c) → (∀ g, ρ (.global g) = .pointer (some ⟨g, 0, none⟩)) → (∀ f, ρ (.func f) = .func (.func f) #[] #[]) →
      GuF ops o R (k + i) ρ w (InF ops o R a0 ρ w o.op.operands.toList (OpOk P o ρ w fun v w' => E w w' ∧ R (k + i) (if o.dst.isSome then v else undef) w')))
  | [], _, _, i, o, h => by simp at h
  | o :: l, k, h, 0, o', h' => by
    simp only [List.getElem?_cons_zero, Option.some.injEq] at h'
    subst h'
    exact h.1
  | o :: l, k, h, i + 1, o', h' => by
    have := AllOps.get l (k + 1) h.2 i o' (by simpa using h')
    rwa [show k + 1 + i = k + (i + 1) from by omega] at this

/-- THE LAW, with 'what was there is there' from step to step. -/
theorem wp_region_below {id : Nat} {l : List Oper} (R : Nat → Value → World → Prop) (hm : P.follows .mixedOrders = true) (hok : drawsOk l.toArray a0.tmps.size = true)
    (hst : ∀ j v w w', R j v w → Below w.heap.size w w' → R j v w')
    (hop : AllOps P l.toArray R (fun w w' => Below w.heap.size w w') a0 w0 l 0)
    (hend : ∀ w', Below w0.heap.size w0 w' → PutAll R w' Q l 0 a0) : (Code.region id l.toArray true).wp P Q a0 w0 := by
  refine wp_region_draws R (fun w w' => Below w.heap.size w w') hm hok (fun w => Below.refl _ _) (fun w w' w'' h h' => h.trans (h'.mono h.size)) hst ?_ ?_
  · intro i o ho
    have := AllOps.get l 0 hop i o (by simpa using ho)
    rw [Nat.zero_add] at this
    exact fun ρ w hE => this ρ w ((below_drew _).trans hE)
  · intro w' h
    exact hend w' ((below_drew _).trans h)

theorem opOk_move {o : Oper} {ρ : Operand → Value} {w : World} {K : Value → World → Prop} (x : Operand) (h : o.op = .move x) (hk : K (ρ x) w) : OpOk P o ρ w K := by
  unfold OpOk; simp only [execOp, h, Sem.run_pure]; exact hk
theorem opOk_assign {o : Oper} {ρ : Operand → Value} {w : World} {K : Value → World → Prop} (x : Operand) (h : o.op = .assign x) (hk : K (ρ x) w) : OpOk P o ρ w K := by
  unfold OpOk; simp only [execOp, h, Sem.run_pure]; exact hk
theorem opOk_run {o : Oper} {ρ : Operand → Value} {w w' : World} {K : Value → World → Prop} {v : Value} (h : (execOp ρ o).run P w = .ok (.value v) w') (hk : K v w') : OpOk P o ρ w K := by
  unfold OpOk; rw [h]; exact hk
theorem opOk_call {o : Oper} {ρ : Operand → Value} {w : World} {K : Value → World → Prop} {f : FuncId} {args : Array Value} (h : (execOp ρ o).run P w = .ok (.enter f args) w) (hk : Calls P f args w fun e w'' => ∃ v, e = .returned v ∧ K v w'') : OpOk P o ρ w K := by
  unfold OpOk; rw [h]; exact hk

theorem opOk_slice {o : Oper} {ρ : Operand → Value} {w : World} {K : Value → World → Prop} (t : TypeId) (x : Operand) (lo hi' : Option Operand) (ho : o.op = Op.slice t x lo hi' none)
    (e : TypeId) (info : TypeInfo) (sz : Nat) (ht : P.underlying t = some (.slice e)) (hi : P.info? e = some info) (hz : info.size = sz) (hs : 0 < sz)
    {a : Option Addr} {n cap : Nat} {xs : List Value} (hx : ρ x = .slice a n cap) (h : CS w a cap sz xs) (i j : Nat)
    (hlo : lo.map ρ = some (.int .i64 (i : Int)) ∨ (lo = none ∧ i = 0)) (hhi : hi'.map ρ = some (.int .i64 (j : Int)) ∨ (hi' = none ∧ j = n)) (hij : i ≤ j) (hj : j ≤ cap)
    (hK : ∀ a', CS w a' (cap - i) sz (xs.drop (i * sz)) → K (.slice a' (j - i) (cap - i)) w) : OpOk P o ρ w K := by
  obtain ⟨a', hr, hc⟩ := run_slice_cut (P := P) (w := w) t e info sz ht hi hz hs (n := n) h (lo.map ρ) (hi'.map ρ) i j
    (hlo.imp id fun ⟨h1, h2⟩ => ⟨by rw [h1]; rfl, h2⟩) (hhi.imp id fun ⟨h1, h2⟩ => ⟨by rw [h1]; rfl, h2⟩) hij hj
  refine opOk_run (v := .slice a' (j - i) (cap - i)) (w' := w) ?_ (hK a' hc)
  simp only [execOp, ho, hx, Sem.run_bind, Result.andThen, Sem.run_pure]
  simp [hr, Instr.sliceAt, run_underlying ht, Result.andThen]

/-! ### the last operation writes: whatever is read is read ahead of it -/

/-- the operations that must be done ahead of those of the list, n steps deep -/
def aheadOf (ops : Array Oper) : Nat → List Nat → List Nat
  | 0, l => l
  | n + 1, l => aheadOf ops n (l ++ ((l.flatMap fun i => match ops[i]? with | some o => o.after.toList.filterMap (fun e => if Region.binds .any e then some e.on else none) | none => []).filter fun j => !l.contains j).eraseDups)

/-- all others are done ahead of the last one -/
def lastOk (ops : Array Oper) (deep : Nat) : Bool :=
  (match ops[ops.size - 1]? with | some o => o.guard.isNone | none => false) && (List.range ops.size).all fun i => (aheadOf ops deep [ops.size - 1]).contains i

theorem aheadOf_done {listed : Array Bool} {a : Act} {w : World} (h : DInv ops R E a0 w0 listed a w) : ∀ (n : Nat) (l : List Nat), (∀ i ∈ l, i < ops.size ∧ (listed.getD i false = true ∨ ∀ o, ops[i]? = some o → ∀ e ∈ o.after, Region.binds .any e = true → listed.getD e.on false = true)) →
    (hlt : ∀ (i : Nat) o, ops[i]? = some o → ∀ e ∈ o.after, Region.binds .any e = true → e.on < i) →
    ∀ i ∈ aheadOf ops n l, i ∈ l ∨ listed.getD i false = true
  | 0, l, _, _, i, hi => .inl hi
  | n + 1, l, hl, hlt, i, hi => by
    have step : ∀ j ∈ ((l.flatMap fun i => match ops[i]? with | some o => o.after.toList.filterMap (fun e => if Region.binds .any e then some e.on else none) | none => []).filter fun j => !l.contains j).eraseDups, j < ops.size ∧ listed.getD j false = true := by
      intro j hj
      have hj := List.mem_eraseDups.1 hj
      rw [List.mem_filter, List.mem_flatMap] at hj
      obtain ⟨⟨k, hk, hj⟩, _⟩ := hj
      obtain ⟨hks, hk'⟩ := hl k hk
      rw [Array.getElem?_eq_getElem hks] at hj
      simp only [List.mem_filterMap] at hj
      obtain ⟨e, he, hej⟩ := hj
      split at hej
      · rename_i hb
        simp only [Option.some.injEq] at hej
        subst hej
        have hlt' := hlt k _ (Array.getElem?_eq_getElem hks) e (Array.mem_toList_iff.1 he) hb
        refine ⟨by omega, ?_⟩
        rcases hk' with h1 | h1
        · exact h.shut k _ (Array.getElem?_eq_getElem hks) h1 e (Array.mem_toList_iff.1 he) hb
        · exact h1 _ (Array.getElem?_eq_getElem hks) e (Array.mem_toList_iff.1 he) hb
      · simp at hej
    have := aheadOf_done h n _ (fun j hj => by
      rcases List.mem_append.1 hj with hj | hj
      · exact hl j hj
      · exact ⟨(step j hj).1, .inl (step j hj).2⟩) hlt i hi
    rcases this with hm | hm
    · rcases List.mem_append.1 hm with hm | hm
      · exact .inl hm
      · exact .inr (step i hm).2
    · exact .inr hm

theorem DInv.putAll (_hok : drawsOk ops a0.tmps.size = true) {listed : Array Bool} {a : Act} {w : World} (h : DInv ops R E a0 w0 listed a w) (l : List Oper) (hl : ∀ (i : Nat) (o : Oper), l[i]? = some o → ops[i]? = some o)
    (hdone : ∀ (i : Nat) (o : Oper), l[i]? = some o → listed.getD i false = true) (hun : ∀ (j : Nat) (o : Oper), ops[j]? = some o → listed.getD j false = true → l[j]? = some o)
    (hp : PutAll R w Q l 0 a0) : Q .normal a w := by
  have hp := putAll_use (R := R) (Q := Q) (w' := w) (lastV ops a) l 0 a0 hp (by
    intro j hj
    rw [Nat.zero_add]
    have ho := List.getElem?_eq_getElem hj
    have := h.did j _ (hl _ _ ho) (hdone j _ ho)
    unfold lastV
    rw [hl _ _ ho]
    exact this)
  refine (congrArg (fun x => Q .normal x w) ?_).mp hp
  generalize hg : (List.foldl _ a0 (l.zipIdx 0)) = b
  have hbs : b.tmps.size = a.tmps.size ∧ b.defers = a.defers := by
    rw [← hg]
    exact ⟨(foldl_put_size _ _ _).1.trans h.size.symm, (foldl_put_size _ _ _).2.trans h.defers.symm⟩
  have hb : b.tmps = a.tmps := by
    refine Array.ext hbs.1 fun t h1 h2 => ?_
    have : b.tmps[t]? = a.tmps[t]? := by
      by_cases hd : ∃ x ∈ l.zipIdx 0, x.1.dst = some t
      · rw [← hg, foldl_put_at _ t (a.tmps[t]) _ a0 (by rw [← h.size]; exact h2) hd, Array.getElem?_eq_getElem h2]
        intro x hx hxd
        have := List.mem_zipIdx_iff_getElem?.1 hx
        unfold lastV
        rw [hl _ _ this]
        simp only [Option.bind_some, hxd]
        simp [h2]
      · rw [← hg, foldl_put_keep _ t _ _ (fun x hx e => hd ⟨x, hx, e⟩)]
        refine (h.keep t fun j o ho hj e => hd ⟨(o, j), ?_, e⟩).symm
        exact List.mem_zipIdx_iff_getElem?.2 (hun j o ho hj)
    rw [Array.getElem?_eq_getElem h1, Array.getElem?_eq_getElem h2] at this
    exact Option.some.inj this
  cases b; cases a
  simp only at hb hbs
  rw [hb, hbs.2]

theorem wpAny_nil {fuel : Nat} {listed : Array Bool} {a : Act} {w : World} (hr : Region.ready .any ops listed = []) (h : Q .normal a w) : wpAny P .any ops Q fuel listed a w := by
  cases fuel with
  | zero => exact ⟨hr, h⟩
  | succ n => exact ⟨fun _ => h, fun i hi => by rw [hr] at hi; simp at hi⟩

/-- which relation an operation is shown over: op m writes, and is shown over the narrow one -/
def EIn (m : Nat) (E1 E2 : World → World → Prop) (i : Nat) : World → World → Prop := match Nat.beq i m with | true => E1 | false => E2

/-- the operations one by one, op m a writing one -/
def AllOps2 (P : Program) (ops : Array Oper) (m : Nat) (R : Nat → Value → World → Prop) (E1 E2 : World → World → Prop) (a0 : Act) (w0 : World) : List Oper → Nat → Prop
  | [], _ => True
  | o :: r, i => (∀ (ρ : Operand → Value) (w : World), EIn m E1 E2 i w0 w → (∀ c, ρ (.const c) = c) → (∀ g, ρ (.global g) = .pointer (some ⟨g, 0, none⟩)) → (∀ f, ρ (.func f) = .func (.func f) #[] #[]) →
      GuF ops o R i ρ w (InF ops o R a0 ρ w o.op.operands.toList (OpOk P o ρ w fun v w' => EIn m E2 E1 i w w' ∧ R i (if o.dst.isSome then v else undef) w'))) ∧ AllOps2 P ops m R E1 E2 a0 w0 r (i + 1)

theorem AllOps2.get {m : Nat} {E1 E2 : World → World → Prop} : ∀ (l : List Oper) (k : Nat), AllOps2 P ops m R E1 E2 a0 w0 l k → ∀ i o, l[i]? = some o → (∀ (ρ : Operand → Value) (w : World), EIn m E1 E2 (k + i) w0 w → (∀ c, ρ (.const c) = c) → (∀ g, ρ (.global g) = .pointer (some ⟨g, 0, none⟩)) → (∀ f, ρ (.func f) = .func (.func f) #[] #[]) →
      GuF ops o R (k + i) ρ w (InF ops o R a0 ρ w o.op.operands.toList (OpOk P o ρ w fun v w' => EIn m E2 E1 (k + i) w w' ∧ R (k + i) (if o.dst.isSome then v else undef) w')))
  | [], _, _, i, o, h => by simp at h
  | o :: l, k, h, 0, o', h' => by
    simp only [List.getElem?_cons_zero, Option.some.injEq] at h'
    subst h'
    exact h.1
  | o :: l, k, h, i + 1, o', h' => by
    have := AllOps2.get l (k + 1) h.2 i o' (by simpa using h')
    rwa [show k + 1 + i = k + (i + 1) from by omega] at this

/-- what m reads, or what m waits for, and nobody else: C -/
def consumedOk (ops : Array Oper) (deep m : Nat) (C : List Nat) : Bool :=
  decide (m < ops.size) && !C.contains m && ops.zipIdx.toList.all fun (o, i) => i == m || (aheadOf ops deep [m]).contains i || ((tmpsOf o).all fun t => match srcOf ops o t with | some j => !C.contains j | none => true) && (match o.guard with | some (g, _) => !C.contains g | none => true)

theorem EIn.same {m : Nat} {E1 E2 : World → World → Prop} : EIn m E1 E2 m = E1 := by unfold EIn; simp
theorem EIn.other {m i : Nat} {E1 E2 : World → World → Prop} (h : i ≠ m) : EIn m E1 E2 i = E2 := by
  unfold EIn
  have : Nat.beq i m = false := by
    rw [Bool.eq_false_iff]; intro hh; exact h (Nat.eq_of_beq_eq_true hh)
  rw [this]

/-- what waits for m: Bh -/
def behindOk (ops : Array Oper) (deep m : Nat) (Bh : List Nat) : Bool := Bh.all fun j => decide (j < ops.size) && (aheadOf ops deep [j]).contains m

/-- ████ THE LAW, the last operation a writing one, op m another one ████ -/
theorem wp_region_last {id : Nat} {pre : List Oper} {oL : Oper} (deep m : Nat) (C Bh : List Nat) (R : Nat → Value → World → Prop) (E1 E : World → World → Prop) (hm : P.follows .mixedOrders = true) (hok : drawsOk (pre ++ [oL]).toArray a0.tmps.size = true)
    (hlast : lastOk (pre ++ [oL]).toArray deep = true) (hBh : behindOk (pre ++ [oL]).toArray deep m Bh = true) (hC : C = [] ∨ consumedOk (pre ++ [oL]).toArray deep m C = true)
    (hrf1 : ∀ w, E1 w w) (htr1 : ∀ w w' w'', E1 w w' → E1 w' w'' → E1 w w'') (hsub : ∀ w w', E1 w w' → E w w') (htr : ∀ w w' w'', E w w' → E w' w'' → E w w'') (hst1 : ∀ j v w w', R j v w → E1 w w' → R j v w') (hst2 : ∀ j v w w', j ≠ m → C.contains j = false → Bh.contains j = false → R j v w → E w w' → R j v w')
    (hop : AllOps2 P (pre ++ [oL]).toArray m R E1 E a0 w0.drew pre 0)
    (hend : ∀ w', E w0.drew w' → PutAll (fun j v w => C.contains j = false → R j v w) w' (fun _ a w => OpOk P oL a.eval w fun v w' => Q .normal (a.put oL.dst v) w') pre 0 a0) : (Code.region id (pre ++ [oL]).toArray true).wp P Q a0 w0 := by
  refine wp_region_any hm ?_
  generalize hops : (pre ++ [oL]).toArray = ops at hok hlast hC hBh hop ⊢
  have hsz : ops.size = pre.length + 1 := by rw [← hops]; simp
  have hoL : ops[pre.length]? = some oL := by rw [← hops]; simp
  have hpre : ∀ (i : Nat) (o : Oper), pre[i]? = some o → ops[i]? = some o := by
    intro i o h
    have hi := (List.getElem?_eq_some_iff.1 h).1
    rw [← hops]
    simp only [List.getElem?_toArray]
    rw [List.getElem?_append_left hi]
    exact h
  have hpre' : ∀ (i : Nat) (o : Oper), ops[i]? = some o → i ≠ pre.length → pre[i]? = some o := by
    intro i o h hne
    rw [← hops] at h
    simp only [List.getElem?_toArray] at h
    rcases Nat.lt_or_ge i pre.length with hi | hi
    · rwa [List.getElem?_append_left hi] at h
    · rw [List.getElem?_append_right hi] at h
      have : i - pre.length ≠ 0 := by omega
      cases hh : i - pre.length with
      | zero => omega
      | succ n => rw [hh] at h; simp at h
  simp only [lastOk, Bool.and_eq_true] at hlast
  obtain ⟨hgL, hall⟩ := hlast
  rw [show ops.size - 1 = pre.length from by omega, hoL] at hgL
  rw [show ops.size - 1 = pre.length from by omega] at hall
  have hgL : oL.guard = none := by simpa using hgL
  have hlt : ∀ (i : Nat) o, ops[i]? = some o → ∀ e ∈ o.after, Region.binds .any e = true → e.on < i := fun i o ho => (drawsOk_spec hok ho).1
  let Rh : Array Bool → Nat → Value → World → Prop := fun listed j v w => (C.contains j = true → listed.getD m false = false) → R j v w
  have key : ∀ (fuel : Nat) (listed : Array Bool) (a : Act) (w : World), listed.toList.count false ≤ fuel → listed.getD pre.length true = false → (listed.getD m false = false → E1 w0.drew w) → DInv ops (Rh listed) E a0 w0.drew listed a w → wpAny P .any ops Q fuel listed a w := by
    intro fuel
    induction fuel with
    | zero =>
      intro listed a w hc hL hx h
      exfalso
      have hlt : pre.length < listed.size := by rw [h.lsize]; omega
      have : false ∈ listed.toList := by
        rw [Array.mem_toList_iff]
        have : listed[pre.length] = false := by simpa [hlt] using hL
        rw [← this]; exact Array.getElem_mem hlt
      have := List.count_pos_iff.2 this
      omega
    | succ fuel ih =>
      intro listed a w hc hL hx h
      refine ⟨fun hr => ?_, fun i hi => ?_⟩
      · -- something is ready as long as the last one is open
        exfalso
        have all : ∀ n, ∀ i, i < n → ∀ o, ops[i]? = some o → listed.getD i true = true := by
          intro n
          induction n with
          | zero => intro i hi; omega
          | succ n ihn =>
            intro i hi o ho
            rcases Nat.lt_or_ge i n with hlt' | hge
            · exact ihn i hlt' o ho
            obtain rfl : i = n := by omega
            cases hcc : listed.getD i true with
            | true => rfl
            | false =>
              exfalso
              have : i ∈ Region.ready .any ops listed := mem_ready.2 ⟨hcc, o, ho, fun e he hb => by
                have hlt' := hlt i o ho e he hb
                have hs : e.on < ops.size := by have := (Array.getElem?_eq_some_iff.1 ho).1; omega
                have := ihn e.on hlt' _ (Array.getElem?_eq_getElem hs)
                have hls : e.on < listed.size := by rw [h.lsize]; exact hs
                simpa [hls] using this⟩
              rw [hr] at this; simp at this
        have := all (pre.length + 1) pre.length (by omega) _ hoL
        rw [hL] at this; cases this
      obtain ⟨hun, o, ho, hall'⟩ := mem_ready.1 hi
      have hilt : i < listed.size := by rw [h.lsize]; exact (Array.getElem?_eq_some_iff.1 ho).1
      have hun' : listed[i] = false := by simpa [hilt] using hun
      have hcnt : (listed.setIfInBounds i true).toList.count false ≤ fuel := by
        have := count_set listed.toList i (by rw [Array.getElem?_toList, Array.getElem?_eq_getElem hilt, hun'])
        rw [Array.toList_setIfInBounds]
        omega
      by_cases hiL : i = pre.length
      · -- the last one: all others are done
        subst hiL
        rw [hoL] at ho; cases ho
        have hd : ∀ j, j < ops.size → j ≠ pre.length → listed.getD j false = true := by
          intro j hj hne
          rw [List.all_eq_true] at hall
          have hm := hall j (by simpa using hj)
          rw [List.contains_iff_mem] at hm
          rcases aheadOf_done h deep [pre.length] (by
            intro k hk
            simp only [List.mem_singleton] at hk
            subst hk
            refine ⟨by omega, .inr ?_⟩
            intro o' ho'
            rw [hoL] at ho'; cases ho'
            exact hall') hlt j hm with h1 | h1
          · simp only [List.mem_singleton] at h1; omega
          · exact h1
        have hok2 : OpOk P oL a.eval w fun v w' => Q .normal (a.put oL.dst v) w' := by
          have h' : DInv ops (fun j v w => C.contains j = false → R j v w) E a0 w0.drew listed a w := ⟨h.defers, h.size, h.lsize, h.ext, fun j o ho hj hc => h.did j o ho hj (fun hc' => by rw [hc] at hc'; cases hc'), h.keep, h.shut⟩
          refine h'.putAll (Q := fun _ a w => OpOk P oL a.eval w fun v w' => Q .normal (a.put oL.dst v) w') hok pre hpre ?_ ?_ (hend w h.ext)
          · intro i o hio
            have := (List.getElem?_eq_some_iff.1 hio).1
            exact hd i (by omega) (by omega)
          · intro j o' ho' hj
            refine hpre' j o' ho' ?_
            rintro rfl
            have : listed.getD pre.length false = false := by simp [hilt, hun']
            rw [this] at hj; cases hj
        have hnil : Region.ready .any ops (listed.setIfInBounds pre.length true) = [] := by
          cases hrr : Region.ready .any ops (listed.setIfInBounds pre.length true) with
          | nil => rfl
          | cons k r =>
            exfalso
            have hk : k ∈ Region.ready .any ops (listed.setIfInBounds pre.length true) := by rw [hrr]; simp
            obtain ⟨hunk, ok, hok', _⟩ := mem_ready.1 hk
            have hks : k < ops.size := (Array.getElem?_eq_some_iff.1 hok').1
            by_cases hke : k = pre.length
            · subst hke
              simp [hilt] at hunk
            · have := hd k hks hke
              rw [getD_set_ne true (Ne.symm hke)] at hunk
              have hkl : k < listed.size := by rw [h.lsize]; exact hks
              simp only [Array.getD_eq_getD_getElem?, Array.getElem?_eq_getElem hkl, Option.getD_some] at this hunk
              rw [hunk] at this; cases this
        unfold wpOp
        rw [hoL]
        simp only []
        rw [if_pos (by simp [Region.wanted, hgL])]
        left
        unfold Oper.wp
        unfold OpOk at hok2
        cases hrun : (execOp a.eval oL).run P w with
        | halt x w' => rw [hrun] at hok2; exact hok2.elim
        | ok n w' =>
          rw [hrun] at hok2
          cases n with
          | value v => exact wpAny_nil hnil hok2
          | skip => exact wpAny_nil hnil hok2
          | enter f args =>
            refine Calls.mono hok2 fun e w'' he => ?_
            obtain ⟨v, rfl, h1⟩ := he
            exact wpAny_nil hnil h1
          | defer d => exact hok2.elim
          | row r args => exact hok2.elim
          | _ => exact hok2.elim
      have hL' : (listed.setIfInBounds i true).getD pre.length true = false := by
        rw [getD_set_ne true hiL]; exact hL
      have hsp := drawsOk_spec hok ho
      have hin0 : EIn m E1 E i w0.drew w := by
        by_cases e : i = m
        · subst e; rw [EIn.same]; exact hx (by simp [hilt, hun'])
        · rw [EIn.other e]; exact h.ext
      have go := AllOps2.get pre 0 hop i o (hpre' i o ho hiL) a.eval w (by rw [Nat.zero_add]; exact hin0) (fun _ => rfl) (fun _ => rfl) (fun _ => rfl)
      rw [Nat.zero_add] at go
      have hsE : ∀ w', EIn m E E1 i w w' → E w w' := by
        intro w' he
        by_cases e : i = m
        · subst e; rw [EIn.same] at he; exact he
        · rw [EIn.other e] at he; exact hsub _ _ he
      have hread : ∀ j, ((∃ t ∈ tmpsOf o, srcOf ops o t = some j) ∨ (∃ b, o.guard = some (j, b))) → C.contains j = true → listed.getD m false = false := by
        intro j hj hcj
        by_cases e : i = m
        · subst e; simp [hilt, hun']
        · rcases hC with rfl | hC
          · simp at hcj
          simp only [consumedOk, Bool.and_eq_true, decide_eq_true_eq] at hC
          have hms := hC.1.1
          cases hlm : listed.getD m false with
          | false => rfl
          | true =>
            exfalso
            have := zipIdx_all hC.2 ho
            simp only [Bool.or_eq_true, beq_iff_eq, e, false_or, Bool.and_eq_true] at this
            rcases this with hah | this
            · rw [List.contains_iff_mem] at hah
              rcases aheadOf_done h deep [m] (by
                intro q hq
                simp only [List.mem_singleton] at hq
                subst hq
                exact ⟨hms, .inl hlm⟩) hlt i hah with h1 | h1
              · simp only [List.mem_singleton] at h1; exact e h1
              · have : listed.getD i false = false := by simp [hilt, hun']
                rw [this] at h1; cases h1
            · rcases hj with ⟨t, ht, hs⟩ | ⟨b, hb⟩
              · have h1 := List.all_eq_true.1 this.1 t ht
                rw [hs] at h1
                simp only [Bool.not_eq_true'] at h1
                rw [h1] at hcj; cases hcj
              · have h1 := this.2
                rw [hb] at h1
                simp only [Bool.not_eq_true'] at h1
                rw [h1] at hcj; cases hcj
      have hstb : ∀ w', EIn m E E1 i w w' → ∀ j v, j ≠ i → listed.getD j false = true → Rh listed j v w → Rh (listed.setIfInBounds i true) j v w' := by
        intro w' he j v hne hlj hj hc
        by_cases e : i = m
        · subst e
          rw [EIn.same] at he
          have hcf : C.contains j = false := by
            cases hcc : C.contains j with
            | false => rfl
            | true =>
              have := hc hcc
              simp [hilt] at this
          have hbf : Bh.contains j = false := by
            cases hbb : Bh.contains j with
            | false => rfl
            | true =>
              exfalso
              rw [List.contains_iff_mem] at hbb
              have hb1 := List.all_eq_true.1 hBh j hbb
              simp only [Bool.and_eq_true, decide_eq_true_eq] at hb1
              have hb2 := hb1.2
              rw [List.contains_iff_mem] at hb2
              rcases aheadOf_done h deep [j] (by
                intro q hq
                simp only [List.mem_singleton] at hq
                subst hq
                exact ⟨hb1.1, .inl hlj⟩) hlt i hb2 with h1 | h1
              · simp only [List.mem_singleton] at h1; exact hne h1.symm
              · have : listed.getD i false = false := by simp [hilt, hun']
                rw [this] at h1; cases h1
          exact hst2 j v _ _ hne hcf hbf (hj (fun h' => by rw [hcf] at h'; cases h')) he
        · rw [EIn.other e] at he
          exact hst1 j v _ _ (hj (fun h' => by have := hc h'; rwa [getD_set_ne false e] at this)) he
      have hx' : ∀ w', EIn m E E1 i w w' → (listed.setIfInBounds i true).getD m false = false → E1 w0.drew w' := by
        intro w' he hl
        by_cases e : i = m
        · subst e; simp [hilt] at hl
        · rw [EIn.other e] at he
          rw [getD_set_ne false e] at hl
          exact htr1 _ _ _ (hx hl) he
      have hin : ∀ t, Operand.tmp t ∈ o.op.operands.toList → (match srcOf ops o t with | some j => R j (a.eval (.tmp t)) w | none => a.eval (.tmp t) = a0.eval (.tmp t)) := by
        intro t ht
        have htm : t ∈ tmpsOf o := List.mem_filterMap.2 ⟨_, ht, rfl⟩
        cases hs : srcOf ops o t with
        | some j =>
          obtain ⟨e, hemem, hb, rfl, o', ho', hd'⟩ := srcOf_spec hs
          have := h.did e.on o' ho' (hall' e hemem hb) (hread e.on (.inl ⟨t, htm, hs⟩))
          rw [hd'] at this
          exact this
        | none =>
          have := h.keep t fun j o' ho' hj hd' => by
            rcases hsp.2.2.1 t htm hs j o' ho' hd' with rfl | hw
            · have : listed.getD i false = false := by simp [hilt, hun']
              rw [this] at hj; cases hj
            · obtain ⟨e, hemem, hb, rfl⟩ := waitsB_spec hw
              have := h.shut j o' ho' hj e hemem hb
              have h2 : listed.getD e.on false = false := by simp [hilt, hun']
              rw [h2] at this; cases this
          simp only [Act.eval, Array.getD_eq_getD_getElem?, this]
      have run : OpOk P o a.eval w (fun v w' => EIn m E E1 i w w' ∧ R i (if o.dst.isSome then v else undef) w') →
          o.wp P a w (fun a' w' => wpAny P .any ops Q fuel (listed.setIfInBounds i true) a' w') Q := by
        intro hk
        unfold Oper.wp
        unfold OpOk at hk
        cases hrun : (execOp a.eval o).run P w with
        | halt x w' => rw [hrun] at hk; exact hk.elim
        | ok n w' =>
          rw [hrun] at hk
          cases n with
          | value v => exact ih _ _ _ hcnt hL' (hx' _ hk.1) (h.put hok htr (hstb _ hk.1) ho hi (hsE _ hk.1) (fun _ => hk.2))
          | skip => exact ih _ _ _ hcnt hL' (hx' _ hk.1) (h.put hok htr (hstb _ hk.1) ho hi (hsE _ hk.1) (fun _ => by simpa using hk.2))
          | enter f args =>
            refine Calls.mono hk fun e w'' he => ?_
            obtain ⟨v, rfl, h1, h2⟩ := he
            exact ih _ _ _ hcnt hL' (hx' _ h1) (h.put hok htr (hstb _ h1) ho hi (hsE _ h1) (fun _ => h2))
          | defer d => exact hk.elim
          | row r args => exact hk.elim
          | _ => exact hk.elim
      unfold wpOp
      rw [ho]
      simp only []
      cases hgd : o.guard with
      | none =>
        simp only [GuF, hgd] at go
        rw [if_pos (by simp [Region.wanted, hgd])]
        exact .inl (run (InF_use _ go hin))
      | some gb =>
        obtain ⟨g, b⟩ := gb
        simp only [GuF, hgd] at go
        obtain ⟨hwg, og, dg, hog, hdg⟩ := hsp.2.2.2.1 g b hgd
        obtain ⟨e, hemem, hb, rfl⟩ := waitsB_spec hwg
        have hR := h.did e.on og hog (hall' e hemem hb) (hread e.on (.inr ⟨b, hgd⟩))
        rw [hdg] at hR
        have hdl : dg < a.tmps.size := by rw [h.size]; exact ((drawsOk_spec hok hog).2.1 dg hdg).1
        obtain ⟨g1, g2⟩ := go _ hR
        have hyield : yielded ops a.tmps e.on = match a.tmps.getD dg undef with | .bool b => some b | _ => none := by
          simp only [yielded, hog, Option.bind_some, hdg, Array.getElem?_eq_getElem hdl, Array.getD_eq_getD_getElem?, Option.getD_some]
          generalize a.tmps[dg] = x
          cases x <;> rfl
        by_cases hyes : a.tmps.getD dg undef = .bool b
        · rw [if_pos (by simp [Region.wanted, hgd, hyield, hyes])]
          exact .inl (run (InF_use _ (g1 hyes) hin))
        · rw [if_neg (by
            simp only [Region.wanted, hgd, hyield]
            intro hh
            apply hyes
            split at hh
            · rename_i b' hb'
              rw [hb']
              simp at hh
              rw [hh]
            · simp at hh)]
          have hrfl : EIn m E E1 i w w := by
            by_cases e : i = m
            · subst e; rw [EIn.same]; exact hsub _ _ (hrf1 _)
            · rw [EIn.other e]; exact hrf1 _
          exact ih _ _ _ hcnt hL' (hx' _ hrfl) (h.put hok htr (hstb _ hrfl) ho hi (hsub _ _ (hrf1 _)) (fun _ => by simpa using g2 hyes))
  refine key ops.size _ a0 _ (by simp) (by simp [hsz]) (fun _ => hrf1 _) ⟨rfl, rfl, by simp, hsub _ _ (hrf1 _), ?_, fun _ _ => rfl, ?_⟩
  · intro j o ho hj; rw [getD_repl] at hj; cases hj
  · intro j o ho hj; rw [getD_repl] at hj; cases hj

/-- behind all but the last one: the last one is shown -/
def PutLast (P : Program) (C : List Nat) (R : Nat → Value → World → Prop) (w' : World) (Q : Exit → Act → World → Prop) : List Oper → Nat → Act → Prop
  | [], _, _ => False
  | o :: r, i, a => match r with
    | [] => OpOk P o a.eval w' fun v w'' => Q .normal (a.put o.dst v) w''
    | _ :: _ => ∀ v, (match C.contains i with | true => True | false => R i v w') → PutLast P C R w' Q r (i + 1) (a.put o.dst v)

def AllButLast (P : Program) (ops : Array Oper) (m : Nat) (R : Nat → Value → World → Prop) (E1 E2 : World → World → Prop) (a0 : Act) (w0 : World) : List Oper → Nat → Prop
  | [], _ => True
  | o :: r, i => match r with
    | [] => True
    | _ :: _ => (∀ (ρ : Operand → Value) (w : World), EIn m E1 E2 i w0 w → (∀ c, ρ (.const c) = c) → (∀ g, ρ (.global g) = .pointer (some ⟨g, 0, none⟩)) → (∀ f, ρ (.func f) = .func (.func f) #[] #[]) →
      GuF ops o R i ρ w (InF ops o R a0 ρ w o.op.operands.toList (OpOk P o ρ w fun v w' => EIn m E2 E1 i w w' ∧ R i (if o.dst.isSome then v else undef) w'))) ∧ AllButLast P ops m R E1 E2 a0 w0 r (i + 1)

theorem AllButLast.split {m : Nat} {E1 E2 : World → World → Prop} {oL : Oper} : ∀ (pre : List Oper) (k : Nat), AllButLast P ops m R E1 E2 a0 w0 (pre ++ [oL]) k → AllOps2 P ops m R E1 E2 a0 w0 pre k
  | [], _, _ => trivial
  | [_o], _k, h => ⟨h.1, trivial⟩
  | _o :: o' :: r, k, h => ⟨h.1, AllButLast.split (o' :: r) (k + 1) h.2⟩

theorem PutLast.split {w' : World} {oL : Oper} {C : List Nat} : ∀ (pre : List Oper) (k : Nat) (a : Act), PutLast P C R w' Q (pre ++ [oL]) k a → PutAll (fun j v w => C.contains j = false → R j v w) w' (fun _ a w => OpOk P oL a.eval w fun v w' => Q .normal (a.put oL.dst v) w') pre k a
  | [], _, _, h => h
  | [o], k, a, h => fun v hv => h v (by cases hc : C.contains k with | true => trivial | false => exact hv hc)
  | o :: o' :: r, k, a, h => fun v hv => PutLast.split (o' :: r) (k + 1) _ (h v (by cases hc : C.contains k with | true => trivial | false => exact hv hc))

/-- THE LAW, with blocks: op m changes those of S (or none), the last one what it likes -/
theorem wp_region_chg {id : Nat} {l : List Oper} (deep m : Nat) (S : List Nat) (R : Nat → Value → World → Prop) (hm : P.follows .mixedOrders = true) (hok : drawsOk l.toArray a0.tmps.size = true)
    (hlast : lastOk l.toArray deep = true) (hst1 : ∀ j v w w', R j v w → Below w.heap.size w w' → R j v w') (hst2 : ∀ j v w w', j ≠ m → R j v w → Chg S w w' → R j v w')
    (hop : AllButLast P l.toArray m R (fun w w' => Below w.heap.size w w') (Chg S) a0 w0.drew l 0)
    (hend : ∀ w', Chg S w0.drew w' → PutLast P [] R w' Q l 0 a0) : (Code.region id l.toArray true).wp P Q a0 w0 := by
  rcases List.eq_nil_or_concat l with rfl | ⟨pre, oL, rfl⟩
  · exact (hend _ (Chg.refl _ _)).elim
  · rw [List.concat_eq_append] at *
    exact wp_region_last deep m [] [] R (fun w w' => Below w.heap.size w w') (Chg S) hm hok hlast rfl (.inl rfl) (fun w => Below.refl _ _) (fun w w' w'' h h' => h.trans (h'.mono h.size)) (fun _ _ h => Chg.of_below S h) (fun _ _ _ h h' => h.trans h') hst1 (fun j v w w' h _ _ hr hc => hst2 j v w w' h hr hc) (AllButLast.split pre 0 hop) (fun w' hw => PutLast.split pre 0 a0 (hend w' hw))

/-- THE LAW, with blocks, and operations that wait for m: their facts may be of what m leaves -/
theorem wp_region_chgB {id : Nat} {l : List Oper} (deep m : Nat) (S Bh : List Nat) (R : Nat → Value → World → Prop) (hm : P.follows .mixedOrders = true) (hok : drawsOk l.toArray a0.tmps.size = true)
    (hlast : lastOk l.toArray deep = true) (hBh : behindOk l.toArray deep m Bh = true) (hst1 : ∀ j v w w', R j v w → Below w.heap.size w w' → R j v w') (hst2 : ∀ j v w w', j ≠ m → Bh.contains j = false → R j v w → Chg S w w' → R j v w')
    (hop : AllButLast P l.toArray m R (fun w w' => Below w.heap.size w w') (Chg S) a0 w0.drew l 0)
    (hend : ∀ w', Chg S w0.drew w' → PutLast P [] R w' Q l 0 a0) : (Code.region id l.toArray true).wp P Q a0 w0 := by
  rcases List.eq_nil_or_concat l with rfl | ⟨pre, oL, rfl⟩
  · exact (hend _ (Chg.refl _ _)).elim
  · rw [List.concat_eq_append] at *
    exact wp_region_last deep m [] Bh R (fun w w' => Below w.heap.size w w') (Chg S) hm hok hlast hBh (.inl rfl) (fun w => Below.refl _ _) (fun w w' w'' h h' => h.trans (h'.mono h.size)) (fun _ _ h => Chg.of_below S h) (fun _ _ _ h h' => h.trans h') hst1 (fun j v w w' h _ hb hr hc => hst2 j v w w' h hb hr hc) (AllButLast.split pre 0 hop) (fun w' hw => PutLast.split pre 0 a0 (hend w' hw))

/-- what came since n blocks were there may change -/
def Since (n : Nat) (w w' : World) : Prop := w.heap.size ≤ w'.heap.size ∧ (n ≤ w.heap.size → Below n w w')
theorem Since.trans {n : Nat} {a b c : World} (h : Since n a b) (k : Since n b c) : Since n a c := ⟨Nat.le_trans h.1 k.1, fun hn => (h.2 hn).trans (k.2 (Nat.le_trans hn h.1))⟩
theorem Since.of {n : Nat} {a b : World} (h : Below a.heap.size a b) : Since n a b := ⟨h.size, fun hn => h.mono hn⟩

/-- THE LAW, with what is new: op m changes what came since the statement began, and reads C for the last time -/
theorem wp_region_new {id : Nat} {l : List Oper} (deep m : Nat) (C : List Nat) (R : Nat → Value → World → Prop) (hm : P.follows .mixedOrders = true) (hok : drawsOk l.toArray a0.tmps.size = true)
    (hlast : lastOk l.toArray deep = true) (hC : consumedOk l.toArray deep m C = true) (hst1 : ∀ j v w w', R j v w → Below w.heap.size w w' → R j v w') (hst2 : ∀ j v w w', j ≠ m → C.contains j = false → R j v w → Since w0.heap.size w w' → R j v w')
    (hop : AllButLast P l.toArray m R (fun w w' => Below w.heap.size w w') (Since w0.heap.size) a0 w0.drew l 0)
    (hend : ∀ w', Below w0.heap.size w0 w' → PutLast P C R w' Q l 0 a0) : (Code.region id l.toArray true).wp P Q a0 w0 := by
  rcases List.eq_nil_or_concat l with rfl | ⟨pre, oL, rfl⟩
  · exact (hend _ (Below.refl _ _)).elim
  · rw [List.concat_eq_append] at *
    exact wp_region_last deep m C [] R (fun w w' => Below w.heap.size w w') (Since w0.heap.size) hm hok hlast rfl (.inr hC) (fun w => Below.refl _ _) (fun w w' w'' h h' => h.trans (h'.mono h.size)) (fun _ _ h => Since.of h) (fun _ _ _ h h' => h.trans h') hst1 (fun j v w w' h hc _ hr he => hst2 j v w w' h hc hr he) (AllButLast.split pre 0 hop) (fun w' hw => PutLast.split pre 0 a0 (hend w' ((below_drew w0).trans (hw.2 (Nat.le_refl _)))))

theorem opOk_skip {o : Oper} {ρ : Operand → Value} {w w' : World} {K : Value → World → Prop} (h : (execOp ρ o).run P w = .ok .skip w') (hk : K undef w') : OpOk P o ρ w K := by
  unfold OpOk; rw [h]; exact hk

/-- a load, by its run -/
theorem opOk_load {o : Oper} {ρ : Operand → Value} {w : World} {K : Value → World → Prop} (t : TypeId) (x : Operand) (ho : o.op = .load t x) (p u : Value) (hx : ρ x = p) (hr : (Instr.loadAt t p).run P w = .ok u w) (hk : K u w) : OpOk P o ρ w K := by
  refine opOk_run (v := u) (w' := w) ?_ hk
  simp only [execOp, ho, hx, Sem.run_bind, hr, Result.andThen_ok, Sem.run_pure]

theorem opOk_assignV {o : Oper} {ρ : Operand → Value} {w : World} {K : Value → World → Prop} (x : Operand) (u : Value) (h : o.op = .assign x) (hx : ρ x = u) (hk : K u w) : OpOk P o ρ w K := by
  subst hx; exact opOk_assign x h hk

theorem opOk_pick {o : Oper} {ρ : Operand → Value} {w : World} {K : Value → World → Prop} (c a b : Operand) (ho : o.op = .pick c a b) (x : Bool) (u : Value) (hc : ρ c = .bool x) (hu : (match x with | true => ρ a | false => ρ b) = u) (hk : K u w) : OpOk P o ρ w K := by
  subst hu
  cases x
  · refine opOk_run (v := ρ b) (w' := w) ?_ hk
    simp [execOp, ho, hc, asBool]
  · refine opOk_run (v := ρ a) (w' := w) ?_ hk
    simp [execOp, ho, hc, asBool]

/-- a store, by its run -/
theorem opOk_store {o : Oper} {ρ : Operand → Value} {w w' : World} {K : Value → World → Prop} (t : TypeId) (x y : Operand) (ho : o.op = .store t x y) (p u : Value) (hx : ρ x = p) (hy : ρ y = u) (hr : (Instr.storeAt t p u).run P w = .ok () w') (hk : K undef w') : OpOk P o ρ w K := by
  refine opOk_skip (w' := w') ?_ hk
  simp only [execOp, ho, hx, hy, Sem.run_bind, hr, Result.andThen_ok, Sem.run_pure]

/-- 'T{x}' laid as a slice of one, by its run -/
theorem opOk_build1 {o : Oper} {ρ : Operand → Value} {w w' : World} {K : Value → World → Prop} (t : TypeId) (x : Operand) (ho : o.op = .buildSlice t 1 #[(0, x)]) (p u : Value) (hx : ρ x = p) (hr : (Instr.buildSlice t 1 #[(0, p)]).run P w = .ok u w') (hk : K u w') : OpOk P o ρ w K := by
  refine opOk_run (v := u) (w' := w') ?_ hk
  unfold execOp
  simp only [ho, List.map_toArray, List.map_cons, List.map_nil, hx, Sem.run_bind, hr, Result.andThen_ok, Sem.run_pure]

/-- a load of many cells -/
theorem opOk_load_row {o : Oper} {ρ : Operand → Value} {w : World} {K : Value → World → Prop} (t : TypeId) (x : Operand) (ho : o.op = .load t x) (b off : Nat) (cs : List Value) (hx : ρ x = .pointer (some ⟨b, off, none⟩)) (hr : w.rangeAt b off cs)
    (hu : ∃ d, P.underlying t = some d ∧ d.isRow = true) (hi : (P.info? t).map (·.size) = some cs.length) (hk : K (.agg cs.toArray) w) : OpOk P o ρ w K := by
  obtain ⟨d, h1, h2⟩ := hu
  exact opOk_load t x ho _ _ hx (run_loadAt_mid w b off t cs d hr h1 h2 hi) hk

theorem opOk_append {o : Oper} {ρ : Operand → Value} {w : World} {K : Value → World → Prop} (s x : Operand) (t : TypeId) (ho : o.op = .call { callee := .builtin .append, args := #[s, x], argTypes := #[t, t] })
    (base : Nat) (e : TypeId) (z : Value) (size bytes : Nat) (hinf : (P.info? e).map (fun i => (i.zero, i.size, i.bytes)) = some (some z, size, bytes)) (hzs : z.cells.size = size) (hsz : 0 < size) (ht : P.underlying t = some (.slice e))
    (v : Value) (n : Nat) (xs : List Value) (hs : ρ s = v) (hown : w.ownsRow base e size v n xs) (y : Addr) (m c : Nat) (news : List Value) (hx : ρ x = .slice (some y) m c) (hl : news.length = m * size)
    (hc : ∀ j u, news[j]? = some u → w.cell? (y.add j) = some u) (h1 : ∀ u ∈ news, u.oneCell' = true) (h63 : n + m ≤ maxLen) (hbytes : (n + m) * bytes ≤ 140737488355328) (hbase : base ≤ w.heap.size)
    (hK : ∀ v' w', w'.ownsRow base e size v' (n + m) (xs ++ news) → w.grownBy w' v.ownBlock → (v'.ownBlock = v.ownBlock ∨ v'.ownBlock = some w.heap.size) → K v' w') : OpOk P o ρ w K := by
  obtain ⟨i, hi, hz0, hz1, hz2⟩ := info_parts hinf
  obtain ⟨v', w', hr, h2, h3, _, h5⟩ := run_append_own_at (P := P) w base t o.type e i z size bytes ht hi hz0 hz1 hz2 hzs hsz v n xs hown y m c news hl hc h1 h63 hbytes hbase
  refine opOk_run (v := v') (w' := w') ?_ (hK v' w' h2 h3 h5)
  simp only [execOp, ho, resolve, invoke, builtin, Sem.run_bind, Sem.run_pure, Result.andThen_ok, List.map_toArray, List.map_cons, List.map_nil, hs, hx, hr]

/-- what an append changes: the row's own block -/
theorem chg_grownBy {w w' : World} {row : Option Nat} (h : w.grownBy w' row) : Chg row.toList w w' :=
  ⟨h.os, h.tape, h.output, h.size, fun k hk hs => h.block k hk (fun e => hs (by rw [← e]; simp))⟩

/-! ### many cells at once: stored, copied -/
theorem chg_setCells (g : Nat) : ∀ (vs : List Value) (o : Nat) (w : World), Chg [g] w (w.setCells g o vs)
  | [], _, w => Chg.refl _ w
  | v :: r, o, w => (chg_setCell w g o v).trans (chg_setCells g r (o + 1) _)

theorem splice_set {α : Type} (v : α) (r : List α) (cs : List α) (o : Nat) (h : o < cs.length) : splice (cs.set o v) (o + 1) r = splice cs o (v :: r) := by
  unfold splice
  rw [List.take_set, List.drop_set, if_pos (by omega), List.length_cons, show o + (r.length + 1) = o + 1 + r.length from by omega]
  rw [List.take_succ_eq_append_getElem h, List.set_append_right _ _ (by simp; omega)]
  simp [List.length_take, Nat.min_eq_left (Nat.le_of_lt h)]

theorem Blk.setMany {g : Nat} {t : TypeId} : ∀ (vs : List Value) (o : Nat) (w : World) (cs : List Value), Blk w g cs t → o + vs.length ≤ cs.length → Blk (w.setCells g o vs) g (splice cs o vs) t
  | [], o, w, cs, h, _ => by simpa [splice, World.setCells] using h
  | v :: r, o, w, cs, h, hl => by
    have := Blk.setMany r (o + 1) _ _ (h.set o v) (by simp at hl ⊢; omega)
    rw [splice_set v r cs o (by simp at hl; omega)] at this
    exact this

theorem flat_splice {α : Type} (f : α → List Value) (sz : Nat) : ∀ (l : List α), (∀ x ∈ l, (f x).length = sz) → ∀ (i : Nat) (x' : α), i < l.length → (f x').length = sz → splice (l.flatMap f) (i * sz) (f x') = (l.set i x').flatMap f
  | [], _, i, x', h, _ => by simp at h
  | y :: l, hf, 0, x', _, hx => by
    have hy := hf y (List.mem_cons_self ..)
    simp [splice, hx, ← hy]
  | y :: l, hf, i + 1, x', h, hx => by
    have hy := hf y (List.mem_cons_self ..)
    have ih := flat_splice f sz l (fun z hz => hf z (List.mem_cons_of_mem _ hz)) i x' (by simpa using h) hx
    rw [List.set_cons_succ, List.flatMap_cons, List.flatMap_cons, ← ih]
    unfold splice
    rw [List.take_append, List.drop_append, List.take_of_length_le (by rw [hy, Nat.add_mul]; omega), List.drop_eq_nil_of_le (by rw [hy, Nat.add_mul]; omega), hy, List.nil_append, List.append_assoc]
    congr 4
    · rw [Nat.add_mul]; omega
    · rw [Nat.add_mul]; omega

/-- a store of many cells -/
theorem opOk_store_row {o : Oper} {ρ : Operand → Value} {w : World} {K : Value → World → Prop} (t : TypeId) (x y : Operand) (ho : o.op = .store t x y) (g off : Nat) (cs cur : List Value) (e : TypeId) (hx : ρ x = .pointer (some ⟨g, off, none⟩)) (hy : ρ y = .agg cs.toArray)
    (hB : Blk w g cur e) (hfit : off + cs.length ≤ cur.length) (hi : (P.info? t).map (·.size) = some cs.length) (h1 : ∀ u ∈ cs, u.oneCell' = true)
    (hk : Blk (w.setCells g off cs) g (splice cur off cs) e → Chg [g] w (w.setCells g off cs) → K undef (w.setCells g off cs)) : OpOk P o ρ w K := by
  have ht : w.there g off cs.toArray.size := fun j hj => by
    simp only [List.size_toArray] at hj
    exact ⟨by rw [hB.cell, List.getElem?_eq_getElem (by omega)]; rfl, hB.free _⟩
  have hr := run_storeAt_mid (P := P) w g off t cs.toArray ht (by simpa using hi) (by rw [Array.all_eq_true_iff_forall_mem]; simpa using h1)
  exact opOk_store t x y ho _ _ hx hy hr (hk (hB.setMany cs off _ _ hfit) (chg_setCells g cs off w))

/-- copy into a block known whole -/
theorem opOk_copy {o : Oper} {ρ : Operand → Value} {w : World} {K : Value → World → Prop} (d s : Operand) (dT sT : TypeId)
    (ho : o.op = .call { callee := .builtin .copy, args := #[d, s], argTypes := #[dT, sT] }) (elem : TypeId) (hu : P.underlying dT = some (.slice elem)) (hsz : (P.info? elem).map (·.size) = some 1)
    (dp sp : Option Addr) (dLen dCap sLen sCap : Nat) (hd : ρ d = .slice dp dLen dCap) (hs : ρ s = .slice sp sLen sCap)
    (g off : Nat) (cur : List Value) (t : TypeId) (hg : Blk w g cur t) (cs : List Value) (hn : cs.length = Nat.min sLen dLen)
    (hpos : 0 < cs.length → dp = some ⟨g, off, none⟩ ∧ ∃ ad, sp = some ad ∧ ∀ j v, cs[j]? = some v → w.cell? (ad.add j) = some v)
    (hfit : off + cs.length ≤ cur.length) (h1 : ∀ v ∈ cs, v.oneCell' = true)
    (h : ∀ w', Blk w' g (splice cur off cs) t → Chg [g] w w' → K (goInt cs.length) w') : OpOk P o ρ w K := by
  by_cases h0 : cs.length = 0
  · obtain rfl : cs = [] := List.eq_nil_of_length_eq_zero h0
    have hrun := run_copy_none (P := P) w dT sT o.type elem dp sp dLen dCap sLen sCap hu hsz (by simpa using hn.symm)
    refine opOk_run (v := goInt 0) (w' := w) ?_ (h w (by simpa [splice] using hg) (Chg.refl _ _))
    simp [execOp, ho, resolve, invoke, builtin, hd, hs, hrun, Result.andThen]
  · obtain ⟨rfl, ad, rfl, hsrc⟩ := hpos (by omega)
    have hrun := run_copy_row (P := P) w dT sT o.type elem g off dLen dCap ad sLen sCap cur.toArray t cs hu hsz hg hn hsrc (by simpa using hfit) h1
    refine opOk_run (v := goInt cs.length) (w' := w.setRow g (cur.toArray.toList.take off ++ (cs ++ cur.toArray.toList.drop (off + cs.length))).toArray) ?_ (h _ ?_ ?_)
    · simp [execOp, ho, resolve, invoke, builtin, hd, hs, hrun, Result.andThen]
    · exact (show _ = _ by simpa [splice] using setRow_heap w g _ _ t _ hg)
    · exact ⟨rfl, rfl, rfl, by simp [World.setRow], fun k hk hs => setRow_other w g k _ (by simpa using hs)⟩

/-! ### bytes -/
/-- '[]byte{}' -/
theorem opOk_lit0 {o : Oper} {ρ : Operand → Value} {w : World} {K : Value → World → Prop} (t e : TypeId) (ho : o.op = .buildSlice t 0 #[]) (ht : P.underlying t = some (.slice e)) (hinf : (P.info? e).map (fun i => (i.zero, i.size, i.bytes)) = some (some (.int .u8 0), 1, 1))
    (hk : Blk (w.alloc (.cells #[] e)) w.heap.size [] e → K (.slice (some ⟨w.heap.size, 0, none⟩) 0 0) (w.alloc (.cells #[] e))) : OpOk P o ρ w K := by
  obtain ⟨i, hi, hz0, hz1, hz2⟩ := info_parts hinf
  refine opOk_run (v := .slice (some ⟨w.heap.size, 0, none⟩) 0 0) (w' := w.alloc (.cells #[] e)) ?_ (hk (blk_alloc w [] e))
  simp [execOp, ho, Instr.buildSlice, run_underlying ht, sizeOf, typeInfo, hi, Instr.fill, newRow]
  rw [show (Array.range 0) = #[] from Array.eq_empty_of_size_eq_zero (by simp), Array.map_empty]

/-- append onto '[]byte{}': nothing that was there changes -/
theorem opOk_append_lit0 {o : Oper} {ρ : Operand → Value} {w : World} {K : Value → World → Prop} (s x : Operand) (t e : TypeId) (ho : o.op = .call { callee := .builtin .append, args := #[s, x], argTypes := #[t, t] })
    (hinf : (P.info? e).map (fun i => (i.zero, i.size, i.bytes)) = some (some (.int .u8 0), 1, 1)) (ht : P.underlying t = some (.slice e)) (b : Nat) (hs : ρ s = .slice (some ⟨b, 0, none⟩) 0 0) (hB : Blk w b [] e)
    {a : Option Addr} {c : Nat} {l : List UInt8} (hc : BS w a c l) (hx : ρ x = .slice a l.length c) (hbytes : l.length ≤ 140737488355328) (base : Nat) (hbase : base ≤ b)
    (hK : ∀ v' w', OB w' base e v' l → Below w.heap.size w w' → K v' w') : OpOk P o ρ w K := by
  obtain ⟨i, hi, hz0, hz1, hz2⟩ := info_parts hinf
  have hbl := hB.lt
  have key : ∃ v' w', (Builtin.append_ #[t, t] o.type #[.slice (some ⟨b, 0, none⟩) 0 0, .slice a l.length c]).run P w = .ok v' w' ∧ OB w' base e v' l ∧ Below w.heap.size w w' := by
    have hown : OB w base e (.slice (some ⟨b, 0, none⟩) 0 0) [] := ⟨by simp, .inr ⟨b, 0, #[], rfl, hbase, hB, Nat.le_refl _, by simp [maxLen], by simp, by simp⟩⟩
    by_cases hl : l = []
    · subst hl
      obtain ⟨v', w', hr, h2, h3, h4⟩ := run_append_cs (P := P) (w := w) base t o.type e i _ 1 1 ht hi hz0 hz1 hz2 rfl (by decide) _ 0 [] hown (by simp) (news := []) (a := a) (m := 0) (c := c) (by simpa [BS] using hc) (Nat.zero_le _) (by simp) (by simp [maxLen]) (by simp) (by omega)
      refine ⟨.slice (some ⟨b, 0, none⟩) 0 0, w, ?_, hown, Below.refl _ _⟩
      cases a with
      | none => exact run_append_owned_none (P := P) w base t o.type e i 1 ht hi _ _ _ hown |>.trans rfl
      | some y =>
        have hf := run_firstCells_some (P := P) w i.size 0 y 0 c [] (by simp) (by simp)
        simp [Builtin.append_, run_underlying ht, sizeOf, typeInfo, hi, Builtin.lenOf, hf, storeCells]
    · have hpos : 0 < l.length := List.length_pos_iff.2 hl
      obtain ⟨b', off, rfl, hh⟩ := CS.at hc (by simpa using hpos)
      have hr := run_append_grow (P := P) w t o.type e i _ ht hi hz0 ⟨b, 0, none⟩ 0 0 [] (by simp) (by simp) ⟨b', off, none⟩ l.length c (l.map u8v) (by simp [hz1]) (fun j u hu => by rw [Addr.add_mid]; exact hh j u hu) (by omega) (by omega) (growslice_fits (by omega) (by rw [hz2]; omega))
      rw [Nat.zero_add] at hr
      refine ⟨_, _, hr, ?_, ?_⟩
      · have hge := grownCap_ge w l.length 0 e
        refine ⟨by simp, .inr ⟨w.heap.size, _, _, rfl, by omega, heap_alloc_new w.drew _, by omega, grownCap_le_maxLen w l.length 0 e (by unfold maxLen; omega), ?_, ?_⟩⟩
        · simp only [Array.size_append, List.size_toArray, size_zeroCells, List.length_map, Value.cells, List.length_nil]
          simp
          omega
        · simp
      · exact ((Below.refl _ _).drew).alloc (by simp) _
  obtain ⟨v', w', hr, h1, h2⟩ := key
  refine opOk_run (v := v') (w' := w') ?_ (hK v' w' h1 h2)
  simp only [execOp, ho, resolve, invoke, builtin, Sem.run_bind, Sem.run_pure, Result.andThen_ok, List.map_toArray, List.map_cons, List.map_nil, hs, hx, hr]

theorem opOk_append_b {o : Oper} {ρ : Operand → Value} {w : World} {K : Value → World → Prop} (s x : Operand) (t : TypeId) (ho : o.op = .call { callee := .builtin .append, args := #[s, x], argTypes := #[t, t] })
    (base : Nat) (e : TypeId) (hinf : (P.info? e).map (fun i => (i.zero, i.size, i.bytes)) = some (some (.int .u8 0), 1, 1)) (ht : P.underlying t = some (.slice e))
    (v : Value) (l : List UInt8) (hown : OB w base e v l) (hs : ρ s = v) {a : Option Addr} {c n : Nat} {l' : List UInt8} (hc : BS w a c l') (hn : l'.length = n) (hx : ρ x = .slice a n c)
    (hbytes : l.length + n ≤ 140737488355328) (hbase : base ≤ w.heap.size)
    (hK : ∀ v' w', OB w' base e v' (l ++ l') → Below base w w' → K v' w') : OpOk P o ρ w K := by
  subst hn
  obtain ⟨i, hi, hz0, hz1, hz2⟩ := info_parts hinf
  obtain ⟨v', w', hr, h2, h3, h4⟩ := run_append_cs (P := P) (w := w) base t o.type e i _ 1 1 ht hi hz0 hz1 hz2 rfl (by decide) v l.length _ hown (a := a) (c := c) (m := l'.length) (news := l'.map u8v) (by simp) hc hc.fit' (oneCell_u8v _) (by unfold maxLen; omega) (by omega) hbase
  refine opOk_run (v := v') (w' := w') ?_ (hK v' w' (by unfold OB; simpa using h2) (grownBy_below h3 hbase hown.ownBlock))
  simp only [execOp, ho, resolve, invoke, builtin, Sem.run_bind, Sem.run_pure, Result.andThen_ok, List.map_toArray, List.map_cons, List.map_nil, hs, hx, hr]

/-- 'p[i:j]' of bytes -/
theorem opOk_bytes_cut {o : Oper} {ρ : Operand → Value} {w : World} {K : Value → World → Prop} (t : TypeId) (x : Operand) (lo hi' : Option Operand) (ho : o.op = Op.slice t x lo hi' none)
    (e : TypeId) (ht : P.underlying t = some (.slice e)) (hinf : (P.info? e).map (fun i => (i.zero, i.size, i.bytes)) = some (some (.int .u8 0), 1, 1))
    {a : Option Addr} {n cap : Nat} {l : List UInt8} (hx : ρ x = .slice a n cap) (h : BS w a cap l) (i j : Nat)
    (hlo : lo.map ρ = some (.int .i64 (i : Int)) ∨ (lo = none ∧ i = 0)) (hhi : hi'.map ρ = some (.int .i64 (j : Int)) ∨ (hi' = none ∧ j = n)) (hij : i ≤ j) (hj : j ≤ cap)
    (hK : ∀ a', BS w a' (cap - i) ((l.drop i).take (j - i)) → K (.slice a' (j - i) (cap - i)) w) : OpOk P o ρ w K := by
  obtain ⟨info, h1, _, h3, _⟩ := info_parts hinf
  refine opOk_slice t x lo hi' ho e info 1 ht h1 h3 (by decide) hx h i j hlo hhi hij hj fun a' hc => hK a' ?_
  exact BS.cut j hc

theorem run_slice_cut0 {w : World} (t e : TypeId) (info : TypeInfo) (sz : Nat) (ht : P.underlying t = some (.slice e)) (hi : P.info? e = some info) (hz : info.size = sz)
    {a : Option Addr} {n cap : Nat} (lo hi' : Option Value) (i j : Nat)
    (hlo : lo = some (.int .i64 (i : Int)) ∨ (lo = none ∧ i = 0)) (hhi : hi' = some (.int .i64 (j : Int)) ∨ (hi' = none ∧ j = n)) (hij : i ≤ j) (hj : j ≤ cap) :
    (Instr.slice t (.slice a n cap) lo hi' none).run P w = .ok (.slice (if cap = i then a else a.map (·.add (i * sz))) (j - i) (cap - i)) w := by
  have hel : (Go.sizeOf e).run P w = .ok sz w := by simp [sizeOf, typeInfo, hi, hz]
  have hb : (Instr.sliceBounds true n cap lo hi' none).run P w = .ok (i, j, cap) w := by
    rcases hlo with rfl | ⟨rfl, rfl⟩ <;> rcases hhi with rfl | ⟨rfl, rfl⟩ <;>
      simp [Instr.sliceBounds, run_sliceBound_nat, hij, hj, Result.andThen]
  simp only [Instr.slice, Sem.run_bind, run_underlying ht, Result.andThen, hb, hel, Sem.run_pure]

/-- 'p[i:j]' of bytes that are known at another world -/
theorem opOk_bytes_cut_at {o : Oper} {ρ : Operand → Value} {w W : World} {K : Value → World → Prop} (t : TypeId) (x : Operand) (lo hi' : Option Operand) (ho : o.op = Op.slice t x lo hi' none)
    (e : TypeId) (ht : P.underlying t = some (.slice e)) (hinf : (P.info? e).map (fun i => (i.zero, i.size, i.bytes)) = some (some (.int .u8 0), 1, 1))
    {a : Option Addr} {n cap : Nat} {l : List UInt8} (hx : ρ x = .slice a n cap) (h : BS W a cap l) (i j : Nat)
    (hlo : lo.map ρ = some (.int .i64 (i : Int)) ∨ (lo = none ∧ i = 0)) (hhi : hi'.map ρ = some (.int .i64 (j : Int)) ∨ (hi' = none ∧ j = n)) (hij : i ≤ j) (hj : j ≤ cap)
    (hK : ∀ a', BS W a' (cap - i) ((l.drop i).take (j - i)) → K (.slice a' (j - i) (cap - i)) w) : OpOk P o ρ w K := by
  obtain ⟨info, h1, _, h3, _⟩ := info_parts hinf
  have hr := run_slice_cut0 (P := P) (w := w) t e info 1 ht h1 h3 (a := a) (n := n) (cap := cap) (lo.map ρ) (hi'.map ρ) i j
    (hlo.imp id fun ⟨h1, h2⟩ => ⟨by rw [h1]; rfl, h2⟩) (hhi.imp id fun ⟨h1, h2⟩ => ⟨by rw [h1]; rfl, h2⟩) hij hj
  refine opOk_run (v := .slice (if cap = i then a else a.map (·.add (i * 1))) (j - i) (cap - i)) (w' := w) ?_ (hK _ (BS.cut j (CS.cut h i (by omega) (by decide))))
  simp only [execOp, ho, hx, Sem.run_bind, Result.andThen, Sem.run_pure]
  simp [hr, Instr.sliceAt, run_underlying ht, Result.andThen]

/-- 'p[:j]' of bytes: the address is what it was -/
theorem opOk_bytes_head {o : Oper} {ρ : Operand → Value} {w : World} {K : Value → World → Prop} (t : TypeId) (x y : Operand) (ho : o.op = Op.slice t x none (some y) none)
    (e : TypeId) (ht : P.underlying t = some (.slice e)) (hinf : (P.info? e).map (fun i => (i.zero, i.size, i.bytes)) = some (some (.int .u8 0), 1, 1))
    {a : Option Addr} {n cap : Nat} (hx : ρ x = .slice a n cap) (j : Nat) (hy : ρ y = .int .i64 (j : Int)) (hj : j ≤ cap) (hK : K (.slice a j cap) w) : OpOk P o ρ w K := by
  obtain ⟨info, h1, _, h3, _⟩ := info_parts hinf
  have hr := run_slice_cut0 (P := P) (w := w) t e info 1 ht h1 h3 (a := a) (n := n) (cap := cap) none (some (.int .i64 (j : Int))) 0 j (.inr ⟨rfl, rfl⟩) (.inl rfl) (Nat.zero_le _) hj
  have ha : (if cap = 0 then a else a.map (·.add (0 * 1))) = a := by
    split
    · rfl
    · cases a <;> simp [Addr.add]
  rw [ha] at hr
  refine opOk_run (v := .slice a j cap) (w' := w) ?_ hK
  simp only [execOp, ho, hx, hy, Option.map_none, Option.map_some, Sem.run_bind, Result.andThen, Sem.run_pure]
  simp [Instr.sliceAt, run_underlying ht, Result.andThen, hr]
end

end Go.Quad

/- A law for a statement whose order is open, several of whose operations change what was there, one after the other: the state goes from phase to phase. -/
namespace Go.Quad
open Go.RowKit

/-- an operation: it is the p-th that changes the state, or it changes nothing and runs in phases lo to hi -/
inductive Ph where
  | w (p : Nat)
  | r (lo hi : Nat)

def Ph.isW : Ph → Nat → Bool
  | .w p, q => p == q
  | .r _ _, _ => false

/-- the check over the phases -/
def phOk (ops : Array Oper) (deep n : Nat) (B : List Ph) : Bool :=
  decide (B.length + 1 = ops.size) &&
  (B.zipIdx.all fun (b, i) => match b with
    | .w p => (match ops[i]? with | some o => o.guard.isNone | none => false) && decide (p < n) && ((List.range p).all fun q => B.zipIdx.any fun (c, j) => c.isW q && (aheadOf ops deep [i]).contains j) && (B.zipIdx.all fun (c, j) => !c.isW p || j == i)
    | .r lo hi => ((List.range lo).all fun q => B.zipIdx.any fun (c, j) => c.isW q && (aheadOf ops deep [i]).contains j) && (B.zipIdx.all fun (c, j) => !c.isW hi || (aheadOf ops deep [j]).contains i)) &&
  ((List.range n).all fun q => B.zipIdx.any fun (c, _) => c.isW q)

section
variable {P : Program} {ops : Array Oper} {R : Nat → Value → World → Prop} {E : World → World → Prop} {a0 : Act} {w0 : World} {Q : Exit → Act → World → Prop}

def AllSt (P : Program) (ops : Array Oper) (St : Nat → World → Prop) (E : World → World → Prop) (R : Nat → Value → World → Prop) (a0 : Act) : List Oper → List Ph → Nat → Prop
  | o :: r, b :: B, i => (∀ (ρ : Operand → Value) (w : World), (∀ c, ρ (.const c) = c) → (∀ g, ρ (.global g) = .pointer (some ⟨g, 0, none⟩)) → (∀ f, ρ (.func f) = .func (.func f) #[] #[]) →
      match b with
      | .w p => St p w → GuF ops o R i ρ w (InF ops o R a0 ρ w o.op.operands.toList (OpOk P o ρ w fun v w' => E w w' ∧ St (p + 1) w' ∧ R i (if o.dst.isSome then v else undef) w'))
      | .r lo hi => ∀ p, lo ≤ p → p ≤ hi → St p w → GuF ops o R i ρ w (InF ops o R a0 ρ w o.op.operands.toList (OpOk P o ρ w fun v w' => Below w.heap.size w w' ∧ R i (if o.dst.isSome then v else undef) w')))
      ∧ AllSt P ops St E R a0 r B (i + 1)
  | _, _, _ => True

/-- what one operation is shown -/
def OneSt (P : Program) (ops : Array Oper) (St : Nat → World → Prop) (E : World → World → Prop) (R : Nat → Value → World → Prop) (a0 : Act) (o : Oper) (b : Ph) (i : Nat) : Prop :=
  ∀ (ρ : Operand → Value) (w : World), (∀ c, ρ (.const c) = c) → (∀ g, ρ (.global g) = .pointer (some ⟨g, 0, none⟩)) → (∀ f, ρ (.func f) = .func (.func f) #[] #[]) →
      match b with
      | .w p => St p w → GuF ops o R i ρ w (InF ops o R a0 ρ w o.op.operands.toList (OpOk P o ρ w fun v w' => E w w' ∧ St (p + 1) w' ∧ R i (if o.dst.isSome then v else undef) w'))
      | .r lo hi => ∀ p, lo ≤ p → p ≤ hi → St p w → GuF ops o R i ρ w (InF ops o R a0 ρ w o.op.operands.toList (OpOk P o ρ w fun v w' => Below w.heap.size w w' ∧ R i (if o.dst.isSome then v else undef) w'))

theorem AllSt.get {St : Nat → World → Prop} : ∀ (l : List Oper) (B : List Ph) (k : Nat), AllSt P ops St E R a0 l B k → ∀ (i : Nat) (o : Oper) (b : Ph), l[i]? = some o → B[i]? = some b → OneSt P ops St E R a0 o b (k + i)
  | [], _, _, _, i, o, b, h, _ => by simp at h
  | o :: l, [], _, _, i, _, _, _, h => by simp at h
  | o :: l, b :: B, k, h, 0, o', b', h1, h2 => by
    simp only [List.getElem?_cons_zero, Option.some.injEq] at h1 h2
    subst h1 h2
    exact h.1
  | o :: l, b :: B, k, h, i + 1, o', b', h1, h2 => by
    have := AllSt.get l B (k + 1) h.2 i o' b' (by simpa using h1) (by simpa using h2)
    rwa [show k + 1 + i = k + (i + 1) from by omega] at this

theorem zipAll {α : Type} {B : List α} {f : α × Nat → Bool} (h : B.zipIdx.all f = true) {i : Nat} {b : α} (hb : B[i]? = some b) : f (b, i) = true := by
  rw [List.all_eq_true] at h
  exact h _ (List.mem_zipIdx_iff_getElem?.2 hb)
theorem zipAny {α : Type} {B : List α} {f : α × Nat → Bool} (h : B.zipIdx.any f = true) : ∃ i b, B[i]? = some b ∧ f (b, i) = true := by
  rw [List.any_eq_true] at h
  obtain ⟨⟨b, i⟩, hm, hf⟩ := h
  exact ⟨i, b, List.mem_zipIdx_iff_getElem?.1 hm, hf⟩
theorem isW_eq {b : Ph} {q : Nat} (h : b.isW q = true) : b = .w q := by
  cases b with
  | w p => simp only [Ph.isW, beq_iff_eq] at h; rw [h]
  | r lo hi => simp [Ph.isW] at h

/-- ████ THE LAW ████ -/
theorem wp_region_stp {id : Nat} {pre : List Oper} {oL : Oper} (deep n : Nat) (B : List Ph) (St : Nat → World → Prop) (E : World → World → Prop) (R : Nat → Value → World → Prop) (hm : P.follows .mixedOrders = true) (hok : drawsOk (pre ++ [oL]).toArray a0.tmps.size = true)
    (hlast : lastOk (pre ++ [oL]).toArray deep = true) (hB : phOk (pre ++ [oL]).toArray deep n B = true)
    (hst1 : ∀ j v w w', R j v w → Below w.heap.size w w' → R j v w') (hst2 : ∀ j v w w', R j v w → E w w' → R j v w') (hS : ∀ p w w', St p w → Below w.heap.size w w' → St p w') (h0 : St 0 w0.drew)
    (hop : AllSt P (pre ++ [oL]).toArray St E R a0 pre B 0)
    (hend : ∀ w', St n w' → PutAll R w' (fun _ a w => OpOk P oL a.eval w fun v w' => Q .normal (a.put oL.dst v) w') pre 0 a0) : (Code.region id (pre ++ [oL]).toArray true).wp P Q a0 w0 := by
  refine wp_region_any hm ?_
  generalize hops : (pre ++ [oL]).toArray = ops at hok hlast hB hop ⊢
  have hsz : ops.size = pre.length + 1 := by rw [← hops]; simp
  have hoL : ops[pre.length]? = some oL := by rw [← hops]; simp
  have hpre : ∀ (i : Nat) (o : Oper), pre[i]? = some o → ops[i]? = some o := by
    intro i o h
    have hi := (List.getElem?_eq_some_iff.1 h).1
    rw [← hops]
    simp only [List.getElem?_toArray]
    rw [List.getElem?_append_left hi]
    exact h
  have hpre' : ∀ (i : Nat) (o : Oper), ops[i]? = some o → i ≠ pre.length → pre[i]? = some o := by
    intro i o h hne
    rw [← hops] at h
    simp only [List.getElem?_toArray] at h
    rcases Nat.lt_or_ge i pre.length with hi | hi
    · rwa [List.getElem?_append_left hi] at h
    · rw [List.getElem?_append_right hi] at h
      have : i - pre.length ≠ 0 := by omega
      cases hh : i - pre.length with
      | zero => omega
      | succ n => rw [hh] at h; simp at h
  simp only [lastOk, Bool.and_eq_true] at hlast
  obtain ⟨hgL, hall⟩ := hlast
  rw [show ops.size - 1 = pre.length from by omega, hoL] at hgL
  rw [show ops.size - 1 = pre.length from by omega] at hall
  have hgL : oL.guard = none := by simpa using hgL
  have hlt : ∀ (i : Nat) o, ops[i]? = some o → ∀ e ∈ o.after, Region.binds .any e = true → e.on < i := fun i o ho => (drawsOk_spec hok ho).1
  simp only [phOk, Bool.and_eq_true, decide_eq_true_eq] at hB
  obtain ⟨⟨hBl, hBa⟩, hBn⟩ := hB
  have hBl : B.length = pre.length := by omega
  let T : World → World → Prop := fun _ _ => True
  have key : ∀ (fuel : Nat) (listed : Array Bool) (a : Act) (w : World), listed.toList.count false ≤ fuel → listed.getD pre.length true = false →
      (∃ p, p ≤ n ∧ St p w ∧ ∀ j q, B[j]? = some (.w q) → (listed.getD j false = true ↔ q < p)) → DInv ops R T a0 w0.drew listed a w → wpAny P .any ops Q fuel listed a w := by
    intro fuel
    induction fuel with
    | zero =>
      intro listed a w hc hL hx h
      exfalso
      have hlt : pre.length < listed.size := by rw [h.lsize]; omega
      have : false ∈ listed.toList := by
        rw [Array.mem_toList_iff]
        have : listed[pre.length] = false := by simpa [hlt] using hL
        rw [← this]; exact Array.getElem_mem hlt
      have := List.count_pos_iff.2 this
      omega
    | succ fuel ih =>
      intro listed a w hc hL hx h
      refine ⟨fun hr => ?_, fun i hi => ?_⟩
      · exfalso
        have all : ∀ n, ∀ i, i < n → ∀ o, ops[i]? = some o → listed.getD i true = true := by
          intro n
          induction n with
          | zero => intro i hi; omega
          | succ n ihn =>
            intro i hi o ho
            rcases Nat.lt_or_ge i n with hlt' | hge
            · exact ihn i hlt' o ho
            obtain rfl : i = n := by omega
            cases hcc : listed.getD i true with
            | true => rfl
            | false =>
              exfalso
              have : i ∈ Region.ready .any ops listed := mem_ready.2 ⟨hcc, o, ho, fun e he hb => by
                have hlt' := hlt i o ho e he hb
                have hs : e.on < ops.size := by have := (Array.getElem?_eq_some_iff.1 ho).1; omega
                have := ihn e.on hlt' _ (Array.getElem?_eq_getElem hs)
                have hls : e.on < listed.size := by rw [h.lsize]; exact hs
                simpa [hls] using this⟩
              rw [hr] at this; simp at this
        have := all (pre.length + 1) pre.length (by omega) _ hoL
        rw [hL] at this; cases this
      obtain ⟨hun, o, ho, hall'⟩ := mem_ready.1 hi
      have hilt : i < listed.size := by rw [h.lsize]; exact (Array.getElem?_eq_some_iff.1 ho).1
      have hun' : listed[i] = false := by simpa [hilt] using hun
      have hunD : listed.getD i false = false := by simp [hilt, hun']
      have hcnt : (listed.setIfInBounds i true).toList.count false ≤ fuel := by
        have := count_set listed.toList i (by rw [Array.getElem?_toList, Array.getElem?_eq_getElem hilt, hun'])
        rw [Array.toList_setIfInBounds]
        omega
      have ahead : ∀ j, j ∈ aheadOf ops deep [i] → j = i ∨ listed.getD j false = true := by
        intro j hj
        rcases aheadOf_done h deep [i] (by
          intro q hq
          simp only [List.mem_singleton] at hq
          subst hq
          refine ⟨(Array.getElem?_eq_some_iff.1 ho).1, .inr ?_⟩
          intro o' ho'
          rw [ho] at ho'; cases ho'
          exact hall') hlt j hj with h1 | h1
        · simp only [List.mem_singleton] at h1; exact .inl h1
        · exact .inr h1
      by_cases hiL : i = pre.length
      · subst hiL
        rw [hoL] at ho; cases ho
        have hd : ∀ j, j < ops.size → j ≠ pre.length → listed.getD j false = true := by
          intro j hj hne
          rw [List.all_eq_true] at hall
          have hm := hall j (by simpa using hj)
          rw [List.contains_iff_mem] at hm
          rcases ahead j hm with h1 | h1
          · exact (hne h1).elim
          · exact h1
        obtain ⟨p, hpn, hSt, hpi⟩ := hx
        have hpn' : p = n := by
          rcases Nat.lt_or_ge p n with hlt' | hge
          · exfalso
            have := List.all_eq_true.1 hBn p (by simpa using hlt')
            obtain ⟨j, b, hb, hw⟩ := zipAny this
            have hbw := isW_eq hw
            subst hbw
            have hjl : j < B.length := (List.getElem?_eq_some_iff.1 hb).1
            have := (hpi j p hb).1 (hd j (by omega) (by omega))
            omega
          · omega
        subst hpn'
        have hok2 : OpOk P oL a.eval w fun v w' => Q .normal (a.put oL.dst v) w' := by
          refine h.putAll (Q := fun _ a w => OpOk P oL a.eval w fun v w' => Q .normal (a.put oL.dst v) w') hok pre hpre ?_ ?_ (hend w hSt)
          · intro i o hio
            have := (List.getElem?_eq_some_iff.1 hio).1
            exact hd i (by omega) (by omega)
          · intro j o' ho' hj
            refine hpre' j o' ho' ?_
            rintro rfl
            rw [hunD] at hj; cases hj
        have hnil : Region.ready .any ops (listed.setIfInBounds pre.length true) = [] := by
          cases hrr : Region.ready .any ops (listed.setIfInBounds pre.length true) with
          | nil => rfl
          | cons k r =>
            exfalso
            have hk : k ∈ Region.ready .any ops (listed.setIfInBounds pre.length true) := by rw [hrr]; simp
            obtain ⟨hunk, ok, hok', _⟩ := mem_ready.1 hk
            have hks : k < ops.size := (Array.getElem?_eq_some_iff.1 hok').1
            by_cases hke : k = pre.length
            · subst hke
              simp [hilt] at hunk
            · have := hd k hks hke
              rw [getD_set_ne true (Ne.symm hke)] at hunk
              have hkl : k < listed.size := by rw [h.lsize]; exact hks
              simp only [Array.getD_eq_getD_getElem?, Array.getElem?_eq_getElem hkl, Option.getD_some] at this hunk
              rw [hunk] at this; cases this
        unfold wpOp
        rw [hoL]
        simp only []
        rw [if_pos (by simp [Region.wanted, hgL])]
        left
        unfold Oper.wp
        unfold OpOk at hok2
        cases hrun : (execOp a.eval oL).run P w with
        | halt x w' => rw [hrun] at hok2; exact hok2.elim
        | ok n w' =>
          rw [hrun] at hok2
          cases n with
          | value v => exact wpAny_nil hnil hok2
          | skip => exact wpAny_nil hnil hok2
          | enter f args =>
            refine Calls.mono hok2 fun e w'' he => ?_
            obtain ⟨v, rfl, h1⟩ := he
            exact wpAny_nil hnil h1
          | defer d => exact hok2.elim
          | row r args => exact hok2.elim
          | _ => exact hok2.elim
      have hL' : (listed.setIfInBounds i true).getD pre.length true = false := by
        rw [getD_set_ne true hiL]; exact hL
      have hsp := drawsOk_spec hok ho
      have hipre : i < pre.length := by have := (List.getElem?_eq_some_iff.1 (hpre' i o ho hiL)).1; exact this
      obtain ⟨b, hb⟩ : ∃ b, B[i]? = some b := ⟨B[i]'(by omega), List.getElem?_eq_getElem (by omega)⟩
      have go0 := AllSt.get pre B 0 hop i o b (hpre' i o ho hiL) hb
      rw [Nat.zero_add] at go0
      have go1 := go0 a.eval w (fun _ => rfl) (fun _ => rfl) (fun _ => rfl)
      clear go0
      have hin : ∀ t, Operand.tmp t ∈ o.op.operands.toList → (match srcOf ops o t with | some j => R j (a.eval (.tmp t)) w | none => a.eval (.tmp t) = a0.eval (.tmp t)) := by
        intro t ht
        have htm : t ∈ tmpsOf o := List.mem_filterMap.2 ⟨_, ht, rfl⟩
        cases hs : srcOf ops o t with
        | some j =>
          obtain ⟨e, hemem, hb, rfl, o', ho', hd'⟩ := srcOf_spec hs
          have := h.did e.on o' ho' (hall' e hemem hb)
          rw [hd'] at this
          exact this
        | none =>
          have := h.keep t fun j o' ho' hj hd' => by
            rcases hsp.2.2.1 t htm hs j o' ho' hd' with rfl | hw
            · rw [hunD] at hj; cases hj
            · obtain ⟨e, hemem, hb', rfl⟩ := waitsB_spec hw
              have := h.shut j o' ho' hj e hemem hb'
              rw [hunD] at this; cases this
          simp only [Act.eval, Array.getD_eq_getD_getElem?, this]
      obtain ⟨p, hpn, hSt, hpi⟩ := hx
      have hBi := zipAll hBa hb
      have run : ∀ (K : World → Prop), (∀ w', K w' → (∃ p, p ≤ n ∧ St p w' ∧ ∀ j q, B[j]? = some (.w q) → ((listed.setIfInBounds i true).getD j false = true ↔ q < p)) ∧ ∀ j v, j ≠ i → listed.getD j false = true → R j v w → R j v w') →
          OpOk P o a.eval w (fun v w' => K w' ∧ R i (if o.dst.isSome then v else undef) w') → o.wp P a w (fun a' w' => wpAny P .any ops Q fuel (listed.setIfInBounds i true) a' w') Q := by
        intro K hK hk
        unfold Oper.wp
        unfold OpOk at hk
        cases hrun : (execOp a.eval o).run P w with
        | halt x w' => rw [hrun] at hk; exact hk.elim
        | ok n w' =>
          rw [hrun] at hk
          cases n with
          | value v => exact ih _ _ _ hcnt hL' (hK _ hk.1).1 (h.put hok (fun _ _ _ _ _ => trivial) (hK _ hk.1).2 ho hi trivial hk.2)
          | skip => exact ih _ _ _ hcnt hL' (hK _ hk.1).1 (h.put hok (fun _ _ _ _ _ => trivial) (hK _ hk.1).2 ho hi trivial (by simpa using hk.2))
          | enter f args =>
            refine Calls.mono hk fun e w'' he => ?_
            obtain ⟨v, rfl, h1, h2⟩ := he
            exact ih _ _ _ hcnt hL' (hK _ h1).1 (h.put hok (fun _ _ _ _ _ => trivial) (hK _ h1).2 ho hi trivial h2)
          | defer d => exact hk.elim
          | row r args => exact hk.elim
          | _ => exact hk.elim
      have hset : ∀ j, j ≠ i → ((listed.setIfInBounds i true).getD j false = listed.getD j false) := fun j hj => getD_set_ne false (Ne.symm hj)
      unfold wpOp
      rw [ho]
      simp only []
      cases b with
      | w p0 =>
        simp only [Bool.and_eq_true, decide_eq_true_eq] at hBi
        obtain ⟨⟨⟨hg, hp0n⟩, hbefore⟩, huniq⟩ := hBi
        rw [ho] at hg
        have hgd : o.guard = none := by simpa using hg
        have hp0 : p0 = p := by
          have h1 : ¬ p0 < p := fun hh => by
            have := (hpi i p0 hb).2 hh
            rw [hunD] at this; cases this
          rcases Nat.lt_or_ge p p0 with h2 | h2
          · exfalso
            have := List.all_eq_true.1 hbefore p (by simpa using h2)
            obtain ⟨j, c, hc', hcw⟩ := zipAny this
            simp only [Bool.and_eq_true] at hcw
            have hcc := isW_eq hcw.1
            subst hcc
            have ha := hcw.2
            rw [List.contains_iff_mem] at ha
            rcases ahead j ha with h3 | h3
            · subst h3
              rw [hb] at hc'; cases hc'
              omega
            · have := (hpi j p hc').1 h3; omega
          · omega
        subst hp0
        have go := go1 hSt
        simp only [GuF, hgd] at go
        rw [if_pos (by simp [Region.wanted, hgd])]
        refine .inl (run (fun w' => E w w' ∧ St (p0 + 1) w') (fun w' hw' => ⟨⟨p0 + 1, by omega, hw'.2, ?_⟩, fun j v _ _ hj => hst2 j v _ _ hj hw'.1⟩) ?_)
        · intro j q hj
          by_cases hji : j = i
          · subst hji
            rw [hb] at hj; cases hj
            simp [hilt]
          · rw [hset j hji]
            have hq : q ≠ p0 := by
              rintro rfl
              have := zipAll huniq hj
              simp only [Ph.isW, beq_self_eq_true, Bool.not_true, Bool.false_or, beq_iff_eq] at this
              exact hji this
            rw [hpi j q hj]
            constructor <;> intro _ <;> omega
        · have := InF_use _ go hin
          unfold OpOk at this ⊢
          cases hrun : (execOp a.eval o).run P w with
          | halt x w' => rw [hrun] at this; exact this.elim
          | ok n w' =>
            rw [hrun] at this
            cases n with
            | value v => exact ⟨⟨this.1, this.2.1⟩, this.2.2⟩
            | skip => exact ⟨⟨this.1, this.2.1⟩, this.2.2⟩
            | enter f args => exact Calls.mono this fun e w'' ⟨v, he, h1, h2, h3⟩ => ⟨v, he, ⟨h1, h2⟩, h3⟩
            | defer d => exact this.elim
            | row r args => exact this.elim
            | _ => exact this.elim
      | r lo hi' =>
        simp only [Bool.and_eq_true] at hBi
        have hlo : lo ≤ p := by
          rcases Nat.lt_or_ge p lo with h2 | h2
          · exfalso
            have := List.all_eq_true.1 hBi.1 p (by simpa using h2)
            obtain ⟨j, c, hc', hcw⟩ := zipAny this
            simp only [Bool.and_eq_true] at hcw
            have hcc := isW_eq hcw.1
            subst hcc
            have ha := hcw.2
            rw [List.contains_iff_mem] at ha
            rcases ahead j ha with h3 | h3
            · subst h3
              rw [hb] at hc'; cases hc'
            · have := (hpi j p hc').1 h3; omega
          · exact h2
        have hhi : p ≤ hi' := by
          rcases Nat.lt_or_ge hi' p with h2 | h2
          · exfalso
            have := List.all_eq_true.1 hBn hi' (by simp; omega)
            obtain ⟨j, c, hc', hcw⟩ := zipAny this
            have hcc := isW_eq hcw
            subst hcc
            have hjl := (hpi j hi' hc').2 h2
            have hjz := zipAll hBi.2 hc'
            simp only [Ph.isW, beq_self_eq_true, Bool.not_true, Bool.false_or] at hjz
            rw [List.contains_iff_mem] at hjz
            have hjs : j < ops.size := by have := (List.getElem?_eq_some_iff.1 hc').1; omega
            rcases aheadOf_done h deep [j] (by
              intro q hq
              simp only [List.mem_singleton] at hq
              subst hq
              exact ⟨hjs, .inl hjl⟩) hlt i hjz with h3 | h3
            · simp only [List.mem_singleton] at h3
              subst h3
              rw [hb] at hc'; cases hc'
            · rw [hunD] at h3; cases h3
          · exact h2
        have go := go1 p hlo hhi hSt
        have hKr : ∀ w', Below w.heap.size w w' → (∃ p, p ≤ n ∧ St p w' ∧ ∀ j q, B[j]? = some (.w q) → ((listed.setIfInBounds i true).getD j false = true ↔ q < p)) ∧ ∀ j v, j ≠ i → listed.getD j false = true → R j v w → R j v w' := by
          intro w' hw'
          refine ⟨⟨p, hpn, hS p _ _ hSt hw', ?_⟩, fun j v _ _ hj => hst1 j v _ _ hj hw'⟩
          intro j q hj
          by_cases hji : j = i
          · subst hji; rw [hb] at hj; cases hj
          · rw [hset j hji]; exact hpi j q hj
        cases hgd : o.guard with
        | none =>
          simp only [GuF, hgd] at go
          rw [if_pos (by simp [Region.wanted, hgd])]
          exact .inl (run (fun w' => Below w.heap.size w w') hKr (InF_use _ go hin))
        | some gb =>
          obtain ⟨g, b⟩ := gb
          simp only [GuF, hgd] at go
          obtain ⟨hwg, og, dg, hog, hdg⟩ := hsp.2.2.2.1 g b hgd
          obtain ⟨e, hemem, hb', rfl⟩ := waitsB_spec hwg
          have hR := h.did e.on og hog (hall' e hemem hb')
          rw [hdg] at hR
          have hdl : dg < a.tmps.size := by rw [h.size]; exact ((drawsOk_spec hok hog).2.1 dg hdg).1
          obtain ⟨g1, g2⟩ := go _ hR
          have hyield : yielded ops a.tmps e.on = match a.tmps.getD dg undef with | .bool b => some b | _ => none := by
            simp only [yielded, hog, Option.bind_some, hdg, Array.getElem?_eq_getElem hdl, Array.getD_eq_getD_getElem?, Option.getD_some]
            generalize a.tmps[dg] = x
            cases x <;> rfl
          by_cases hyes : a.tmps.getD dg undef = .bool b
          · rw [if_pos (by simp [Region.wanted, hgd, hyield, hyes])]
            exact .inl (run (fun w' => Below w.heap.size w w') hKr (InF_use _ (g1 hyes) hin))
          · rw [if_neg (by
              simp only [Region.wanted, hgd, hyield]
              intro hh
              apply hyes
              split at hh
              · rename_i b' hb''
                rw [hb'']
                simp at hh
                rw [hh]
              · simp at hh)]
            have hk := hKr w (Below.refl _ _)
            exact ih _ _ _ hcnt hL' hk.1 (h.put hok (fun _ _ _ _ _ => trivial) hk.2 ho hi trivial (by simpa using g2 hyes))
  refine key ops.size _ a0 _ (by simp) (by simp [hsz]) ⟨0, Nat.zero_le _, h0, fun j q hb => by rw [getD_repl]; simp⟩ ⟨rfl, rfl, by simp, trivial, ?_, fun _ _ => rfl, ?_⟩
  · intro j o ho hj; rw [getD_repl] at hj; cases hj
  · intro j o ho hj; rw [getD_repl] at hj; cases hj

def AllStL (P : Program) (ops : Array Oper) (St : Nat → World → Prop) (E : World → World → Prop) (R : Nat → Value → World → Prop) (a0 : Act) : List Oper → List Ph → Nat → Prop
  | o :: r, b :: B, i => (∀ (ρ : Operand → Value) (w : World), (∀ c, ρ (.const c) = c) → (∀ g, ρ (.global g) = .pointer (some ⟨g, 0, none⟩)) → (∀ f, ρ (.func f) = .func (.func f) #[] #[]) →
      match b with
      | .w p => St p w → GuF ops o R i ρ w (InF ops o R a0 ρ w o.op.operands.toList (OpOk P o ρ w fun v w' => E w w' ∧ St (p + 1) w' ∧ R i (if o.dst.isSome then v else undef) w'))
      | .r lo hi => ∀ p, lo ≤ p → p ≤ hi → St p w → GuF ops o R i ρ w (InF ops o R a0 ρ w o.op.operands.toList (OpOk P o ρ w fun v w' => Below w.heap.size w w' ∧ R i (if o.dst.isSome then v else undef) w')))
      ∧ AllStL P ops St E R a0 r B (i + 1)
  | _, _, _ => True

theorem AllStL.split {St : Nat → World → Prop} {oL : Oper} : ∀ (pre : List Oper) (B : List Ph) (k : Nat), AllStL P ops St E R a0 (pre ++ [oL]) B k → AllSt P ops St E R a0 pre B k
  | [], _, _, _ => by unfold AllSt; trivial
  | o :: r, [], _, _ => by unfold AllSt; trivial
  | o :: r, b :: B, k, h => ⟨h.1, AllStL.split r B (k + 1) h.2⟩

/-- ████ THE LAW ████ -/
theorem wp_region_st {id : Nat} {l : List Oper} (deep n : Nat) (B : List Ph) (St : Nat → World → Prop) (E : World → World → Prop) (R : Nat → Value → World → Prop) (hm : P.follows .mixedOrders = true) (hok : drawsOk l.toArray a0.tmps.size = true)
    (hlast : lastOk l.toArray deep = true) (hB : phOk l.toArray deep n B = true)
    (hst1 : ∀ j v w w', R j v w → Below w.heap.size w w' → R j v w') (hst2 : ∀ j v w w', R j v w → E w w' → R j v w') (hS : ∀ p w w', St p w → Below w.heap.size w w' → St p w') (h0 : St 0 w0.drew)
    (hop : AllStL P l.toArray St E R a0 l B 0)
    (hend : ∀ w', St n w' → PutLast P [] R w' Q l 0 a0) : (Code.region id l.toArray true).wp P Q a0 w0 := by
  rcases List.eq_nil_or_concat l with rfl | ⟨pre, oL, rfl⟩
  · simp [lastOk] at hlast
  · rw [List.concat_eq_append] at *
    refine wp_region_stp deep n B St E R hm hok hlast hB hst1 hst2 hS h0 (AllStL.split pre B 0 hop) (fun w' hw => ?_)
    have h := PutLast.split pre 0 a0 (hend w' hw)
    have conv : ∀ (l : List Oper) (k : Nat) (a : Act) {Z : Exit → Act → World → Prop}, PutAll (fun j v w => [].contains j = false → R j v w) w' Z l k a → PutAll R w' Z l k a := by
      intro l
      induction l with
      | nil => intro k a Z h; exact h
      | cons o r ih => intro k a Z h v hv; exact ih (k + 1) _ (h v (fun _ => hv))
    exact conv _ _ _ h
end
end Go.Quad
