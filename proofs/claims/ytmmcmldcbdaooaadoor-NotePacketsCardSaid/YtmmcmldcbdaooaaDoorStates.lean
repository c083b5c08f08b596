/- A law for a statement whose order is open, several of whose operations change what was there, one after the other: the state goes from phase to phase. -/
import Derived.Test.YtmmcmldcbdaooaaDoorDraws
namespace Go.Quad
open Go.RowKit

/-- an operation: it is the p-th that changes the state, or it changes nothing and runs in phases lo to hi -/
inductive Ph where
  | w (p : Nat)
  | r (lo hi : Nat)

def Ph.isW : Ph → Nat → Bool
  | .w p, q => p == q
  | .r _ _, _ => false

/-- the check over the phases -/
def phOk (ops : Array Oper) (deep n : Nat) (B : List Ph) : Bool :=
  decide (B.length + 1 = ops.size) &&
  (B.zipIdx.all fun (b, i) => match b with
    | .w p => (match ops[i]? with | some o => o.guard.isNone | none => false) && decide (p < n) && ((List.range p).all fun q => B.zipIdx.any fun (c, j) => c.isW q && (aheadOf ops deep [i]).contains j) && (B.zipIdx.all fun (c, j) => !c.isW p || j == i)
    | .r lo hi => ((List.range lo).all fun q => B.zipIdx.any fun (c, j) => c.isW q && (aheadOf ops deep [i]).contains j) && (B.zipIdx.all fun (c, j) => !c.isW hi || (aheadOf ops deep [j]).contains i)) &&
  ((List.range n).all fun q => B.zipIdx.any fun (c, _) => c.isW q)

section
variable {P : Program} {ops : Array Oper} {R : Nat → Value → World → Prop} {E : World → World → Prop} {a0 : Act} {w0 : World} {Q : Exit → Act → World → Prop}

def AllSt (P : Program) (ops : Array Oper) (St : Nat → World → Prop) (E : World → World → Prop) (R : Nat → Value → World → Prop) (a0 : Act) : List Oper → List Ph → Nat → Prop
  | o :: r, b :: B, i => (∀ (ρ : Operand → Value) (w : World), (∀ c, ρ (.const c) = c) → (∀ g, ρ (.global g) = .pointer (some ⟨g, 0, none⟩)) → (∀ f, ρ (.func f) = .func (.func f) #[] #[]) →
      match b with
      | .w p => St p w → GuF ops o R i ρ w (InF ops o R a0 ρ w o.op.operands.toList (OpOk P o ρ w fun v w' => E w w' ∧ St (p + 1) w' ∧ R i (if o.dst.isSome then v else undef) w'))
      | .r lo hi => ∀ p, lo ≤ p → p ≤ hi → St p w → GuF ops o R i ρ w (InF ops o R a0 ρ w o.op.operands.toList (OpOk P o ρ w fun v w' => Below w.heap.size w w' ∧ R i (if o.dst.isSome then v else undef) w')))
      ∧ AllSt P ops St E R a0 r B (i + 1)
  | _, _, _ => True

/-- what one operation is shown -/
def OneSt (P : Program) (ops : Array Oper) (St : Nat → World → Prop) (E : World → World → Prop) (R : Nat → Value → World → Prop) (a0 : Act) (o : Oper) (b : Ph) (i : Nat) : Prop :=
  ∀ (ρ : Operand → Value) (w : World), (∀ c, ρ (.const c) = c) → (∀ g, ρ (.global g) = .pointer (some ⟨g, 0, none⟩)) → (∀ f, ρ (.func f) = .func (.func f) #[] #[]) →
      match b with
      | .w p => St p w → GuF ops o R i ρ w (InF ops o R a0 ρ w o.op.operands.toList (OpOk P o ρ w fun v w' => E w w' ∧ St (p + 1) w' ∧ R i (if o.dst.isSome then v else undef) w'))
      | .r lo hi => ∀ p, lo ≤ p → p ≤ hi → St p w → GuF ops o R i ρ w (InF ops o R a0 ρ w o.op.operands.toList (OpOk P o ρ w fun v w' => Below w.heap.size w w' ∧ R i (if o.dst.isSome then v else undef) w'))

theorem AllSt.get {St : Nat → World → Prop} : ∀ (l : List Oper) (B : List Ph) (k : Nat), AllSt P ops St E R a0 l B k → ∀ (i : Nat) (o : Oper) (b : Ph), l[i]? = some o → B[i]? = some b → OneSt P ops St E R a0 o b (k + i)
  | [], _, _, _, i, o, b, h, _ => by simp at h
  | o :: l, [], _, _, i, _, _, _, h => by simp at h
  | o :: l, b :: B, k, h, 0, o', b', h1, h2 => by
    simp only [List.getElem?_cons_zero, Option.some.injEq] at h1 h2
    subst h1 h2
    exact h.1
  | o :: l, b :: B, k, h, i + 1, o', b', h1, h2 => by
    have := AllSt.get l B (k + 1) h.2 i o' b' (by simpa using h1) (by simpa using h2)
    rwa [show k + 1 + i = k + (i + 1) from by omega] at this

theorem zipAll {α : Type} {B : List α} {f : α × Nat → Bool} (h : B.zipIdx.all f = true) {i : Nat} {b : α} (hb : B[i]? = some b) : f (b, i) = true := by
  rw [List.all_eq_true] at h
  exact h _ (List.mem_zipIdx_iff_getElem?.2 hb)
theorem zipAny {α : Type} {B : List α} {f : α × Nat → Bool} (h : B.zipIdx.any f = true) : ∃ i b, B[i]? = some b ∧ f (b, i) = true := by
  rw [List.any_eq_true] at h
  obtain ⟨⟨b, i⟩, hm, hf⟩ := h
  exact ⟨i, b, List.mem_zipIdx_iff_getElem?.1 hm, hf⟩
theorem isW_eq {b : Ph} {q : Nat} (h : b.isW q = true) : b = .w q := by
  cases b with
  | w p => simp only [Ph.isW, beq_iff_eq] at h; rw [h]
  | r lo hi => simp [Ph.isW] at h

/-- ████ THE LAW ████ -/
theorem wp_region_stp {id : Nat} {pre : List Oper} {oL : Oper} (deep n : Nat) (B : List Ph) (St : Nat → World → Prop) (E : World → World → Prop) (R : Nat → Value → World → Prop) (hm : P.follows .mixedOrders = true) (hok : drawsOk (pre ++ [oL]).toArray a0.tmps.size = true)
    (hlast : lastOk (pre ++ [oL]).toArray deep = true) (hB : phOk (pre ++ [oL]).toArray deep n B = true)
    (hst1 : ∀ j v w w', R j v w → Below w.heap.size w w' → R j v w') (hst2 : ∀ j v w w', R j v w → E w w' → R j v w') (hS : ∀ p w w', St p w → Below w.heap.size w w' → St p w') (h0 : St 0 w0.drew)
    (hop : AllSt P (pre ++ [oL]).toArray St E R a0 pre B 0)
    (hend : ∀ w', St n w' → PutAll R w' (fun _ a w => OpOk P oL a.eval w fun v w' => Q .normal (a.put oL.dst v) w') pre 0 a0) : (Code.region id (pre ++ [oL]).toArray true).wp P Q a0 w0 := by
  refine wp_region_any hm ?_
  generalize hops : (pre ++ [oL]).toArray = ops at hok hlast hB hop ⊢
  have hsz : ops.size = pre.length + 1 := by rw [← hops]; simp
  have hoL : ops[pre.length]? = some oL := by rw [← hops]; simp
  have hpre : ∀ (i : Nat) (o : Oper), pre[i]? = some o → ops[i]? = some o := by
    intro i o h
    have hi := (List.getElem?_eq_some_iff.1 h).1
    rw [← hops]
    simp only [List.getElem?_toArray]
    rw [List.getElem?_append_left hi]
    exact h
  have hpre' : ∀ (i : Nat) (o : Oper), ops[i]? = some o → i ≠ pre.length → pre[i]? = some o := by
    intro i o h hne
    rw [← hops] at h
    simp only [List.getElem?_toArray] at h
    rcases Nat.lt_or_ge i pre.length with hi | hi
    · rwa [List.getElem?_append_left hi] at h
    · rw [List.getElem?_append_right hi] at h
      have : i - pre.length ≠ 0 := by omega
      cases hh : i - pre.length with
      | zero => omega
      | succ n => rw [hh] at h; simp at h
  simp only [lastOk, Bool.and_eq_true] at hlast
  obtain ⟨hgL, hall⟩ := hlast
  rw [show ops.size - 1 = pre.length from by omega, hoL] at hgL
  rw [show ops.size - 1 = pre.length from by omega] at hall
  have hgL : oL.guard = none := by simpa using hgL
  have hlt : ∀ (i : Nat) o, ops[i]? = some o → ∀ e ∈ o.after, Region.binds .any e = true → e.on < i := fun i o ho => (drawsOk_spec hok ho).1
  simp only [phOk, Bool.and_eq_true, decide_eq_true_eq] at hB
  obtain ⟨⟨hBl, hBa⟩, hBn⟩ := hB
  have hBl : B.length = pre.length := by omega
  let T : World → World → Prop := fun _ _ => True
  have key : ∀ (fuel : Nat) (listed : Array Bool) (a : Act) (w : World), listed.toList.count false ≤ fuel → listed.getD pre.length true = false →
      (∃ p, p ≤ n ∧ St p w ∧ ∀ j q, B[j]? = some (.w q) → (listed.getD j false = true ↔ q < p)) → DInv ops R T a0 w0.drew listed a w → wpAny P .any ops Q fuel listed a w := by
    intro fuel
    induction fuel with
    | zero =>
      intro listed a w hc hL hx h
      exfalso
      have hlt : pre.length < listed.size := by rw [h.lsize]; omega
      have : false ∈ listed.toList := by
        rw [Array.mem_toList_iff]
        have : listed[pre.length] = false := by simpa [hlt] using hL
        rw [← this]; exact Array.getElem_mem hlt
      have := List.count_pos_iff.2 this
      omega
    | succ fuel ih =>
      intro listed a w hc hL hx h
      refine ⟨fun hr => ?_, fun i hi => ?_⟩
      · exfalso
        have all : ∀ n, ∀ i, i < n → ∀ o, ops[i]? = some o → listed.getD i true = true := by
          intro n
          induction n with
          | zero => intro i hi; omega
          | succ n ihn =>
            intro i hi o ho
            rcases Nat.lt_or_ge i n with hlt' | hge
            · exact ihn i hlt' o ho
            obtain rfl : i = n := by omega
            cases hcc : listed.getD i true with
            | true => rfl
            | false =>
              exfalso
              have : i ∈ Region.ready .any ops listed := mem_ready.2 ⟨hcc, o, ho, fun e he hb => by
                have hlt' := hlt i o ho e he hb
                have hs : e.on < ops.size := by have := (Array.getElem?_eq_some_iff.1 ho).1; omega
                have := ihn e.on hlt' _ (Array.getElem?_eq_getElem hs)
                have hls : e.on < listed.size := by rw [h.lsize]; exact hs
                simpa [hls] using this⟩
              rw [hr] at this; simp at this
        have := all (pre.length + 1) pre.length (by omega) _ hoL
        rw [hL] at this; cases this
      obtain ⟨hun, o, ho, hall'⟩ := mem_ready.1 hi
      have hilt : i < listed.size := by rw [h.lsize]; exact (Array.getElem?_eq_some_iff.1 ho).1
      have hun' : listed[i] = false := by simpa [hilt] using hun
      have hunD : listed.getD i false = false := by simp [hilt, hun']
      have hcnt : (listed.setIfInBounds i true).toList.count false ≤ fuel := by
        have := count_set listed.toList i (by rw [Array.getElem?_toList, Array.getElem?_eq_getElem hilt, hun'])
        rw [Array.toList_setIfInBounds]
        omega
      have ahead : ∀ j, j ∈ aheadOf ops deep [i] → j = i ∨ listed.getD j false = true := by
        intro j hj
        rcases aheadOf_done h deep [i] (by
          intro q hq
          simp only [List.mem_singleton] at hq
          subst hq
          refine ⟨(Array.getElem?_eq_some_iff.1 ho).1, .inr ?_⟩
          intro o' ho'
          rw [ho] at ho'; cases ho'
          exact hall') hlt j hj with h1 | h1
        · simp only [List.mem_singleton] at h1; exact .inl h1
        · exact .inr h1
      by_cases hiL : i = pre.length
      · subst hiL
        rw [hoL] at ho; cases ho
        have hd : ∀ j, j < ops.size → j ≠ pre.length → listed.getD j false = true := by
          intro j hj hne
          rw [List.all_eq_true] at hall
          have hm := hall j (by simpa using hj)
          rw [List.contains_iff_mem] at hm
          rcases ahead j hm with h1 | h1
          · exact (hne h1).elim
          · exact h1
        obtain ⟨p, hpn, hSt, hpi⟩ := hx
        have hpn' : p = n := by
          rcases Nat.lt_or_ge p n with hlt' | hge
          · exfalso
            have := List.all_eq_true.1 hBn p (by simpa using hlt')
            obtain ⟨j, b, hb, hw⟩ := zipAny this
            have hbw := isW_eq hw
            subst hbw
            have hjl : j < B.length := (List.getElem?_eq_some_iff.1 hb).1
            have := (hpi j p hb).1 (hd j (by omega) (by omega))
            omega
          · omega
        subst hpn'
        have hok2 : OpOk P oL a.eval w fun v w' => Q .normal (a.put oL.dst v) w' := by
          refine h.putAll (Q := fun _ a w => OpOk P oL a.eval w fun v w' => Q .normal (a.put oL.dst v) w') hok pre hpre ?_ ?_ (hend w hSt)
          · intro i o hio
            have := (List.getElem?_eq_some_iff.1 hio).1
            exact hd i (by omega) (by omega)
          · intro j o' ho' hj
            refine hpre' j o' ho' ?_
            rintro rfl
            rw [hunD] at hj; cases hj
        have hnil : Region.ready .any ops (listed.setIfInBounds pre.length true) = [] := by
          cases hrr : Region.ready .any ops (listed.setIfInBounds pre.length true) with
          | nil => rfl
          | cons k r =>
            exfalso
            have hk : k ∈ Region.ready .any ops (listed.setIfInBounds pre.length true) := by rw [hrr]; simp
            obtain ⟨hunk, ok, hok', _⟩ := mem_ready.1 hk
            have hks : k < ops.size := (Array.getElem?_eq_some_iff.1 hok').1
            by_cases hke : k = pre.length
            · subst hke
              simp [hilt] at hunk
            · have := hd k hks hke
              rw [getD_set_ne true (Ne.symm hke)] at hunk
              have hkl : k < listed.size := by rw [h.lsize]; exact hks
              simp only [Array.getD_eq_getD_getElem?, Array.getElem?_eq_getElem hkl, Option.getD_some] at this hunk
              rw [hunk] at this; cases this
        unfold wpOp
        rw [hoL]
        simp only []
        rw [if_pos (by simp [Region.wanted, hgL])]
        left
        unfold Oper.wp
        unfold OpOk at hok2
        cases hrun : (execOp a.eval oL).run P w with
        | halt x w' => rw [hrun] at hok2; exact hok2.elim
        | ok n w' =>
          rw [hrun] at hok2
          cases n with
          | value v => exact wpAny_nil hnil hok2
          | skip => exact wpAny_nil hnil hok2
          | enter f args =>
            refine Calls.mono hok2 fun e w'' he => ?_
            obtain ⟨v, rfl, h1⟩ := he
            exact wpAny_nil hnil h1
          | defer d => exact hok2.elim
          | row r args => exact hok2.elim
          | _ => exact hok2.elim
      have hL' : (listed.setIfInBounds i true).getD pre.length true = false := by
        rw [getD_set_ne true hiL]; exact hL
      have hsp := drawsOk_spec hok ho
      have hipre : i < pre.length := by have := (List.getElem?_eq_some_iff.1 (hpre' i o ho hiL)).1; exact this
      obtain ⟨b, hb⟩ : ∃ b, B[i]? = some b := ⟨B[i]'(by omega), List.getElem?_eq_getElem (by omega)⟩
      have go0 := AllSt.get pre B 0 hop i o b (hpre' i o ho hiL) hb
      rw [Nat.zero_add] at go0
      have go1 := go0 a.eval w (fun _ => rfl) (fun _ => rfl) (fun _ => rfl)
      clear go0
      have hin : ∀ t, Operand.tmp t ∈ o.op.operands.toList → (match srcOf ops o t with | some j => R j (a.eval (.tmp t)) w | none => a.eval (.tmp t) = a0.eval (.tmp t)) := by
        intro t ht
        have htm : t ∈ tmpsOf o := List.mem_filterMap.2 ⟨_, ht, rfl⟩
        cases hs : srcOf ops o t with
        | some j =>
          obtain ⟨e, hemem, hb, rfl, o', ho', hd'⟩ := srcOf_spec hs
          have := h.did e.on o' ho' (hall' e hemem hb)
          rw [hd'] at this
          exact this
        | none =>
          have := h.keep t fun j o' ho' hj hd' => by
            rcases hsp.2.2.1 t htm hs j o' ho' hd' with rfl | hw
            · rw [hunD] at hj; cases hj
            · obtain ⟨e, hemem, hb', rfl⟩ := waitsB_spec hw
              have := h.shut j o' ho' hj e hemem hb'
              rw [hunD] at this; cases this
          simp only [Act.eval, Array.getD_eq_getD_getElem?, this]
      obtain ⟨p, hpn, hSt, hpi⟩ := hx
      have hBi := zipAll hBa hb
      have run : ∀ (K : World → Prop), (∀ w', K w' → (∃ p, p ≤ n ∧ St p w' ∧ ∀ j q, B[j]? = some (.w q) → ((listed.setIfInBounds i true).getD j false = true ↔ q < p)) ∧ ∀ j v, j ≠ i → listed.getD j false = true → R j v w → R j v w') →
          OpOk P o a.eval w (fun v w' => K w' ∧ R i (if o.dst.isSome then v else undef) w') → o.wp P a w (fun a' w' => wpAny P .any ops Q fuel (listed.setIfInBounds i true) a' w') Q := by
        intro K hK hk
        unfold Oper.wp
        unfold OpOk at hk
        cases hrun : (execOp a.eval o).run P w with
        | halt x w' => rw [hrun] at hk; exact hk.elim
        | ok n w' =>
          rw [hrun] at hk
          cases n with
          | value v => exact ih _ _ _ hcnt hL' (hK _ hk.1).1 (h.put hok (fun _ _ _ _ _ => trivial) (hK _ hk.1).2 ho hi trivial hk.2)
          | skip => exact ih _ _ _ hcnt hL' (hK _ hk.1).1 (h.put hok (fun _ _ _ _ _ => trivial) (hK _ hk.1).2 ho hi trivial (by simpa using hk.2))
          | enter f args =>
            refine Calls.mono hk fun e w'' he => ?_
            obtain ⟨v, rfl, h1, h2⟩ := he
            exact ih _ _ _ hcnt hL' (hK _ h1).1 (h.put hok (fun _ _ _ _ _ => trivial) (hK _ h1).2 ho hi trivial h2)
          | defer d => exact hk.elim
          | row r args => exact hk.elim
          | _ => exact hk.elim
      have hset : ∀ j, j ≠ i → ((listed.setIfInBounds i true).getD j false = listed.getD j false) := fun j hj => getD_set_ne false (Ne.symm hj)
      unfold wpOp
      rw [ho]
      simp only []
      cases b with
      | w p0 =>
        simp only [Bool.and_eq_true, decide_eq_true_eq] at hBi
        obtain ⟨⟨⟨hg, hp0n⟩, hbefore⟩, huniq⟩ := hBi
        rw [ho] at hg
        have hgd : o.guard = none := by simpa using hg
        have hp0 : p0 = p := by
          have h1 : ¬ p0 < p := fun hh => by
            have := (hpi i p0 hb).2 hh
            rw [hunD] at this; cases this
          rcases Nat.lt_or_ge p p0 with h2 | h2
          · exfalso
            have := List.all_eq_true.1 hbefore p (by simpa using h2)
            obtain ⟨j, c, hc', hcw⟩ := zipAny this
            simp only [Bool.and_eq_true] at hcw
            have hcc := isW_eq hcw.1
            subst hcc
            have ha := hcw.2
            rw [List.contains_iff_mem] at ha
            rcases ahead j ha with h3 | h3
            · subst h3
              rw [hb] at hc'; cases hc'
              omega
            · have := (hpi j p hc').1 h3; omega
          · omega
        subst hp0
        have go := go1 hSt
        simp only [GuF, hgd] at go
        rw [if_pos (by simp [Region.wanted, hgd])]
        refine .inl (run (fun w' => E w w' ∧ St (p0 + 1) w') (fun w' hw' => ⟨⟨p0 + 1, by omega, hw'.2, ?_⟩, fun j v _ _ hj => hst2 j v _ _ hj hw'.1⟩) ?_)
        · intro j q hj
          by_cases hji : j = i
          · subst hji
            rw [hb] at hj; cases hj
            simp [hilt]
          · rw [hset j hji]
            have hq : q ≠ p0 := by
              rintro rfl
              have := zipAll huniq hj
              simp only [Ph.isW, beq_self_eq_true, Bool.not_true, Bool.false_or, beq_iff_eq] at this
              exact hji this
            rw [hpi j q hj]
            constructor <;> intro _ <;> omega
        · have := InF_use _ go hin
          unfold OpOk at this ⊢
          cases hrun : (execOp a.eval o).run P w with
          | halt x w' => rw [hrun] at this; exact this.elim
          | ok n w' =>
            rw [hrun] at this
            cases n with
            | value v => exact ⟨⟨this.1, this.2.1⟩, this.2.2⟩
            | skip => exact ⟨⟨this.1, this.2.1⟩, this.2.2⟩
            | enter f args => exact Calls.mono this fun e w'' ⟨v, he, h1, h2, h3⟩ => ⟨v, he, ⟨h1, h2⟩, h3⟩
            | defer d => exact this.elim
            | row r args => exact this.elim
            | _ => exact this.elim
      | r lo hi' =>
        simp only [Bool.and_eq_true] at hBi
        have hlo : lo ≤ p := by
          rcases Nat.lt_or_ge p lo with h2 | h2
          · exfalso
            have := List.all_eq_true.1 hBi.1 p (by simpa using h2)
            obtain ⟨j, c, hc', hcw⟩ := zipAny this
            simp only [Bool.and_eq_true] at hcw
            have hcc := isW_eq hcw.1
            subst hcc
            have ha := hcw.2
            rw [List.contains_iff_mem] at ha
            rcases ahead j ha with h3 | h3
            · subst h3
              rw [hb] at hc'; cases hc'
            · have := (hpi j p hc').1 h3; omega
          · exact h2
        have hhi : p ≤ hi' := by
          rcases Nat.lt_or_ge hi' p with h2 | h2
          · exfalso
            have := List.all_eq_true.1 hBn hi' (by simp; omega)
            obtain ⟨j, c, hc', hcw⟩ := zipAny this
            have hcc := isW_eq hcw
            subst hcc
            have hjl := (hpi j hi' hc').2 h2
            have hjz := zipAll hBi.2 hc'
            simp only [Ph.isW, beq_self_eq_true, Bool.not_true, Bool.false_or] at hjz
            rw [List.contains_iff_mem] at hjz
            have hjs : j < ops.size := by have := (List.getElem?_eq_some_iff.1 hc').1; omega
            rcases aheadOf_done h deep [j] (by
              intro q hq
              simp only [List.mem_singleton] at hq
              subst hq
              exact ⟨hjs, .inl hjl⟩) hlt i hjz with h3 | h3
            · simp only [List.mem_singleton] at h3
              subst h3
              rw [hb] at hc'; cases hc'
            · rw [hunD] at h3; cases h3
          · exact h2
        have go := go1 p hlo hhi hSt
        have hKr : ∀ w', Below w.heap.size w w' → (∃ p, p ≤ n ∧ St p w' ∧ ∀ j q, B[j]? = some (.w q) → ((listed.setIfInBounds i true).getD j false = true ↔ q < p)) ∧ ∀ j v, j ≠ i → listed.getD j false = true → R j v w → R j v w' := by
          intro w' hw'
          refine ⟨⟨p, hpn, hS p _ _ hSt hw', ?_⟩, fun j v _ _ hj => hst1 j v _ _ hj hw'⟩
          intro j q hj
          by_cases hji : j = i
          · subst hji; rw [hb] at hj; cases hj
          · rw [hset j hji]; exact hpi j q hj
        cases hgd : o.guard with
        | none =>
          simp only [GuF, hgd] at go
          rw [if_pos (by simp [Region.wanted, hgd])]
          exact .inl (run (fun w' => Below w.heap.size w w') hKr (InF_use _ go hin))
        | some gb =>
          obtain ⟨g, b⟩ := gb
          simp only [GuF, hgd] at go
          obtain ⟨hwg, og, dg, hog, hdg⟩ := hsp.2.2.2.1 g b hgd
          obtain ⟨e, hemem, hb', rfl⟩ := waitsB_spec hwg
          have hR := h.did e.on og hog (hall' e hemem hb')
          rw [hdg] at hR
          have hdl : dg < a.tmps.size := by rw [h.size]; exact ((drawsOk_spec hok hog).2.1 dg hdg).1
          obtain ⟨g1, g2⟩ := go _ hR
          have hyield : yielded ops a.tmps e.on = match a.tmps.getD dg undef with | .bool b => some b | _ => none := by
            simp only [yielded, hog, Option.bind_some, hdg, Array.getElem?_eq_getElem hdl, Array.getD_eq_getD_getElem?, Option.getD_some]
            generalize a.tmps[dg] = x
            cases x <;> rfl
          by_cases hyes : a.tmps.getD dg undef = .bool b
          · rw [if_pos (by simp [Region.wanted, hgd, hyield, hyes])]
            exact .inl (run (fun w' => Below w.heap.size w w') hKr (InF_use _ (g1 hyes) hin))
          · rw [if_neg (by
              simp only [Region.wanted, hgd, hyield]
              intro hh
              apply hyes
              split at hh
              · rename_i b' hb''
                rw [hb'']
                simp at hh
                rw [hh]
              · simp at hh)]
            have hk := hKr w (Below.refl _ _)
            exact ih _ _ _ hcnt hL' hk.1 (h.put hok (fun _ _ _ _ _ => trivial) hk.2 ho hi trivial (by simpa using g2 hyes))
  refine key ops.size _ a0 _ (by simp) (by simp [hsz]) ⟨0, Nat.zero_le _, h0, fun j q hb => by rw [getD_repl]; simp⟩ ⟨rfl, rfl, by simp, trivial, ?_, fun _ _ => rfl, ?_⟩
  · intro j o ho hj; rw [getD_repl] at hj; cases hj
  · intro j o ho hj; rw [getD_repl] at hj; cases hj

def AllStL (P : Program) (ops : Array Oper) (St : Nat → World → Prop) (E : World → World → Prop) (R : Nat → Value → World → Prop) (a0 : Act) : List Oper → List Ph → Nat → Prop
  | o :: r, b :: B, i => (∀ (ρ : Operand → Value) (w : World), (∀ c, ρ (.const c) = c) → (∀ g, ρ (.global g) = .pointer (some ⟨g, 0, none⟩)) → (∀ f, ρ (.func f) = .func (.func f) #[] #[]) →
      match b with
      | .w p => St p w → GuF ops o R i ρ w (InF ops o R a0 ρ w o.op.operands.toList (OpOk P o ρ w fun v w' => E w w' ∧ St (p + 1) w' ∧ R i (if o.dst.isSome then v else undef) w'))
      | .r lo hi => ∀ p, lo ≤ p → p ≤ hi → St p w → GuF ops o R i ρ w (InF ops o R a0 ρ w o.op.operands.toList (OpOk P o ρ w fun v w' => Below w.heap.size w w' ∧ R i (if o.dst.isSome then v else undef) w')))
      ∧ AllStL P ops St E R a0 r B (i + 1)
  | _, _, _ => True

theorem AllStL.split {St : Nat → World → Prop} {oL : Oper} : ∀ (pre : List Oper) (B : List Ph) (k : Nat), AllStL P ops St E R a0 (pre ++ [oL]) B k → AllSt P ops St E R a0 pre B k
  | [], _, _, _ => by unfold AllSt; trivial
  | o :: r, [], _, _ => by unfold AllSt; trivial
  | o :: r, b :: B, k, h => ⟨h.1, AllStL.split r B (k + 1) h.2⟩

/-- ████ THE LAW ████ -/
theorem wp_region_st {id : Nat} {l : List Oper} (deep n : Nat) (B : List Ph) (St : Nat → World → Prop) (E : World → World → Prop) (R : Nat → Value → World → Prop) (hm : P.follows .mixedOrders = true) (hok : drawsOk l.toArray a0.tmps.size = true)
    (hlast : lastOk l.toArray deep = true) (hB : phOk l.toArray deep n B = true)
    (hst1 : ∀ j v w w', R j v w → Below w.heap.size w w' → R j v w') (hst2 : ∀ j v w w', R j v w → E w w' → R j v w') (hS : ∀ p w w', St p w → Below w.heap.size w w' → St p w') (h0 : St 0 w0.drew)
    (hop : AllStL P l.toArray St E R a0 l B 0)
    (hend : ∀ w', St n w' → PutLast P [] R w' Q l 0 a0) : (Code.region id l.toArray true).wp P Q a0 w0 := by
  rcases List.eq_nil_or_concat l with rfl | ⟨pre, oL, rfl⟩
  · simp [lastOk] at hlast
  · rw [List.concat_eq_append] at *
    refine wp_region_stp deep n B St E R hm hok hlast hB hst1 hst2 hS h0 (AllStL.split pre B 0 hop) (fun w' hw => ?_)
    have h := PutLast.split pre 0 a0 (hend w' hw)
    have conv : ∀ (l : List Oper) (k : Nat) (a : Act) {Z : Exit → Act → World → Prop}, PutAll (fun j v w => [].contains j = false → R j v w) w' Z l k a → PutAll R w' Z l k a := by
      intro l
      induction l with
      | nil => intro k a Z h; exact h
      | cons o r ih => intro k a Z h v hv; exact ih (k + 1) _ (h v (fun _ => hv))
    exact conv _ _ _ h
end
end Go.Quad
