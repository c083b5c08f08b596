/- Plain: rows of numbers, and a text behind; what is read out of bytes is written again as just these bytes. (Several texts in one: NoteMath, NoteDefs.) -/
import Derived.Test.YtombndhjoaaaiaaDoorKnotC
import Derived.Test.YtombndhjoaaaiaaDoorInkD

/- Plain: rows of numbers, and a text behind; what is read out of bytes is written again as just these bytes. -/
namespace Quad.Ink

theorem rd_canon : ∀ (p : List UInt8) (i n : Nat) (r : List UInt8), rd i p = some (n, r) → p = numL n ++ r ∧ (0 < i → 0 < n)
  | [], i, n, r, h => by simp [rd] at h
  | b :: q, i, n, r, h => by
    rw [rd] at h
    split at h
    · cases h
    · split at h
      · cases h
      · by_cases h1 : b.toNat < 128
        · rw [if_pos h1] at h
          by_cases h0 : b.toNat = 0 ∧ 0 < i
          · rw [if_pos h0] at h; cases h
          · rw [if_neg h0] at h
            cases h
            rw [numL_small h1]
            exact ⟨by simp, fun hi => by omega⟩
        · rw [if_neg h1, Option.map_eq_some_iff] at h
          obtain ⟨⟨n', r'⟩, h2, h3⟩ := h
          cases h3
          obtain ⟨e, hp⟩ := rd_canon q (i + 1) n' r' h2
          have hp := hp (by omega)
          dsimp only
          rw [numL_big (by omega), show (b.toNat % 128 + 128 * n') / 128 = n' from by omega, List.cons_append, ← e]
          refine ⟨?_, fun _ => by omega⟩
          congr 1
          apply UInt8.toNat_inj.1
          have := b.toNat_lt
          simp
          omega

/-- numbers, one behind the other -/
def rowN (l : List Nat) : List UInt8 := l.flatMap numL
theorem rowN_cons (n : Nat) (l : List Nat) : rowN (n :: l) = numL n ++ rowN l := rfl
theorem rowN_append (l m : List Nat) : rowN (l ++ m) = rowN l ++ rowN m := by simp [rowN]
/-- and a text behind -/
def rowT (l : List Nat) (t : List UInt8) : List UInt8 := rowN l ++ (numL t.length ++ t)
def Small (l : List Nat) : Prop := ∀ n ∈ l, n < 18446744073709551616
end Quad.Ink
namespace Go.Proofs.YtombndhjoaaaiaaDoor
open Go.RowKit Go.Quad _root_.Quad _root_.Quad.Ink

theorem numS_row (n : Nat) (r : List UInt8) (h : n < 18446744073709551616) : numS (numL n ++ r, false) = (n, (r, false)) := by
  unfold numS numTo
  rw [if_neg (by simp)]
  dsimp only
  rw [rd_num0 r h]

theorem numS_bad (p : List UInt8) : numS (p, true) = (0, (p, true)) := rfl

theorem numS_ok {s : St} {r : List UInt8} (h : (numS s).2 = (r, false)) : s = (numL (numS s).1 ++ r, false) ∧ (numS s).1 < 18446744073709551616 := by
  refine ⟨?_, numS_lt s⟩
  obtain ⟨p, b⟩ := s
  cases b with
  | true => cases h
  | false =>
    unfold numS numTo at h ⊢
    rw [if_neg (by simp)] at h ⊢
    dsimp only at h ⊢
    cases e : rd 0 p with
    | none => rw [e] at h; cases h
    | some x =>
      obtain ⟨n, q⟩ := x
      rw [e] at h
      cases h
      exact congrArg (·, false) (rd_canon p 0 n r e).1

theorem numS_state (s : St) : (numS s).2.2 = false ∨ (numS s).2 = (s.1, true) ∨ (numS s).2 = ([], true) := by
  obtain ⟨p, b⟩ := s
  cases b with
  | true => exact .inr (.inl rfl)
  | false =>
    unfold numS numTo
    rw [if_neg (by simp)]
    dsimp only
    cases rd 0 p with
    | none => exact .inr (.inr rfl)
    | some x => exact .inl rfl

def numsS : Nat → St → List Nat × St
  | 0, s => ([], s)
  | k + 1, s => ((numS s).1 :: (numsS k (numS s).2).1, (numsS k (numS s).2).2)

theorem numsS_len : ∀ (k : Nat) (s : St), (numsS k s).1.length = k
  | 0, _ => rfl
  | k + 1, s => by simp [numsS, numsS_len k]

theorem numsS_small : ∀ (k : Nat) (s : St), Small (numsS k s).1
  | 0, _ => fun n hn => by simp [numsS] at hn
  | k + 1, s => fun n hn => by
    rw [numsS] at hn
    rcases List.mem_cons.1 hn with rfl | hn
    · exact numS_lt s
    · exact numsS_small k _ n hn

theorem numsS_row : ∀ (l : List Nat) (r : List UInt8), Small l → numsS l.length (rowN l ++ r, false) = (l, (r, false))
  | [], _, _ => rfl
  | n :: l, r, h => by
    rw [List.length_cons, numsS, rowN_cons, List.append_assoc, numS_row _ _ (h n (by simp)), numsS_row l r fun m hm => h m (by simp [hm])]

theorem numsS_dead : ∀ (k : Nat) (p : List UInt8), (numsS k (p, true)).2.2 = true
  | 0, _ => rfl
  | k + 1, p => by rw [numsS, numS_bad]; exact numsS_dead k p

theorem numsS_ok : ∀ (k : Nat) (s : St) (r : List UInt8), (numsS k s).2 = (r, false) → s = (rowN (numsS k s).1 ++ r, false)
  | 0, s, r, h => h
  | k + 1, s, r, h => by
    rw [numsS] at h
    have h1 := numsS_ok k _ r h
    have h2 := (numS_ok h1).1
    rw [numsS]
    dsimp only
    rw [rowN_cons, List.append_assoc]
    exact h2

theorem numsS_append : ∀ (j k : Nat) (s : St), numsS (j + k) s = ((numsS j s).1 ++ (numsS k (numsS j s).2).1, (numsS k (numsS j s).2).2)
  | 0, k, s => by simp [numsS]
  | j + 1, k, s => by
    rw [show j + 1 + k = (j + k) + 1 from by omega, numsS, numsS_append j k, numsS]
    simp

theorem textS_row (t r : List UInt8) (h : t.length < 18446744073709551616) : textS (numL t.length ++ (t ++ r), false) = (t, (r, false)) := by
  unfold textS
  rw [numS_row _ _ h, if_neg (by simp), if_neg (by simp)]
  simp

theorem textS_ok {s : St} {r : List UInt8} (h : (textS s).2 = (r, false)) : s = (numL (textS s).1.length ++ ((textS s).1 ++ r), false) ∧ (textS s).1.length < 18446744073709551616 := by
  unfold textS at h ⊢
  by_cases h1 : (numS s).2.2 = true
  · rw [if_pos h1] at h
    dsimp only at h
    rw [h] at h1
    cases h1
  · rw [if_neg h1] at h ⊢
    by_cases h2 : (numS s).2.1.length < (numS s).1
    · rw [if_pos h2] at h; cases h
    · rw [if_neg h2] at h ⊢
      dsimp only at h ⊢
      have e : (numS s).2 = ((numS s).2.1, false) := by
        have : (numS s).2.2 = false := by simpa using h1
        rw [← this]
      obtain ⟨q1, q2⟩ := numS_ok e
      have hl : ((numS s).2.1.take (numS s).1).length = (numS s).1 := by rw [List.length_take]; omega
      rw [hl]
      refine ⟨?_, q2⟩
      cases h
      rw [List.take_append_drop]
      exact q1

theorem textS_dead (p : List UInt8) : textS (p, true) = ([], (p, true)) := rfl
theorem intS_dead (p : List UInt8) : intS (p, true) = (0, (p, true)) := rfl
theorem boolS_dead (p : List UInt8) : boolS (p, true) = (false, (p, true)) := rfl

/-! ### knots -/
theorem nextL_ok {p t r : List UInt8} (h : nextL p = (t, r, 0)) : t.length ≤ 2048 ∧ p = tieL t ++ r := by
  unfold nextL at h
  split at h
  · cases h
  · split at h
    · cases h
    · split at h
      · cases h
      · rename_i h1 h2 h3
        split at h
        · rename_i h4
          have he := refnext_eq p (lenL p) (by omega) rfl (by omega)
          rw [h4, beq_iff_eq] at he
          cases h
          refine ⟨by rw [List.length_take]; omega, ?_⟩
          rw [he, List.take_append_drop]
        · cases h

theorem nextL_codes (p : List UInt8) : (nextL p).2.2 = 0 ∨ ((nextL p).1 = [] ∧ (nextL p).2.1 = [] ∧ ((nextL p).2.2 = 2 ∨ (nextL p).2.2 = 3 ∨ (nextL p).2.2 = 5)) := by
  unfold nextL
  split
  · simp
  · split
    · simp
    · split
      · simp
      · split <;> simp

theorem untieL_ok {p t : List UInt8} (h : untieL p = (t, 0)) : t.length ≤ 2048 ∧ p = tieL t := by
  unfold untieL at h
  split at h
  · rename_i h0
    split at h
    · cases h
    · rename_i hr
      have hr' : (nextL p).2.1 = [] := List.eq_nil_of_length_eq_zero (by omega)
      cases h
      have := nextL_ok (p := p) (t := (nextL p).1) (r := []) (by rw [← hr', ← h0])
      simpa using this
  · rename_i h0
    simp only [Prod.mk.injEq] at h
    exact (h0 h.2).elim

theorem tieL_inj {a b : List UInt8} (ha : a.length ≤ 2048) (hb : b.length ≤ 2048) (h : tieL a = tieL b) : a = b := by
  have h1 := untieL_tie a ha
  rw [h, untieL_tie b hb] at h1
  exact (congrArg (·.1) h1).symm

theorem rowT_read (l : List Nat) (t : List UInt8) (hl : Small l) (ht : t.length < 18446744073709551616) :
    numsS l.length (rowT l t, false) = (l, (numL t.length ++ t, false)) ∧ textS (numL t.length ++ t, false) = (t, ([], false)) := by
  refine ⟨numsS_row l _ hl, ?_⟩
  have := textS_row t [] ht
  simpa using this

theorem rowN_read (l : List Nat) (hl : Small l) : numsS l.length (rowN l, false) = (l, ([], false)) := by
  have := numsS_row l [] hl
  simpa using this

theorem rowT_inj {l m : List Nat} {t u : List UInt8} (hlm : l.length = m.length) (hl : Small l) (hm : Small m) (ht : t.length < 18446744073709551616) (hu : u.length < 18446744073709551616) (h : rowT l t = rowT m u) : l = m ∧ t = u := by
  obtain ⟨a1, a2⟩ := rowT_read l t hl ht
  obtain ⟨b1, b2⟩ := rowT_read m u hm hu
  rw [h, hlm, b1] at a1
  simp only [Prod.mk.injEq, and_true] at a1
  obtain ⟨rfl, e⟩ := a1
  rw [← e, b2] at a2
  simp only [Prod.mk.injEq, and_true] at a2
  exact ⟨rfl, a2.symm⟩

theorem rowN_inj {l m : List Nat} (hlm : l.length = m.length) (hl : Small l) (hm : Small m) (h : rowN l = rowN m) : l = m := by
  have a1 := rowN_read l hl
  rw [h, hlm, rowN_read m hm] at a1
  simp only [Prod.mk.injEq, and_true] at a1
  exact a1.symm
end Go.Proofs.YtombndhjoaaaiaaDoor

/- Plain: notes, requests, replies and packets: which are right, their bytes, and what is read. -/
namespace Go.Proofs.YtombndhjoaaaiaaDoor
open Go.RowKit Go.Quad _root_.Quad _root_.Quad.Ink

structure NoteD where
  kind : Nat
  node : Nat
  epoch : Nat
  life : Nat
  tick : Nat
  gen : Nat
  job : Nat
  ver : Nat
  rank : Nat
  credit : Int
  frm : Nat
  til : Nat
  blob : List UInt8

def W32 : Nat := 4294967296
structure NoteD.Ok (n : NoteD) : Prop where
  kind : n.kind < 256
  node : n.node < 256
  epoch : n.epoch < 4294967296
  life : n.life < 4294967296
  tick : n.tick < 4294967296
  gen : n.gen < 4294967296
  job : n.job < 4294967296
  ver : n.ver < 4294967296
  rank : n.rank < 256
  credit : -9223372036854775808 ≤ n.credit ∧ n.credit ≤ 9223372036854775807
  frm : n.frm < 4294967296
  til : n.til < 4294967296

def NoteD.nums (n : NoteD) : List Nat := [1, n.kind, n.node, n.epoch, n.life, n.tick, n.gen, n.job, n.ver, n.rank, n.credit.toNat, n.frm, n.til]
def noteZ : NoteD := ⟨0, 0, 0, 0, 0, 0, 0, 0, 0, 0, 0, 0, []⟩

/-- which of a note's fields a kind names -/
def fNode (k : Nat) : Bool := k == 2
def fEpoch (k : Nat) : Bool := k == 1 || k == 2
def fLife (k : Nat) : Bool := k == 2
def fTick (k : Nat) : Bool := k == 1 || k == 2 || k == 12
def fGen (k : Nat) : Bool := k == 5 || k == 6 || k == 7
def fJob (k : Nat) : Bool := k == 3 || k == 4 || k == 5 || k == 7 || k == 8 || k == 9 || k == 10 || k == 11 || k == 12
def fVer (k : Nat) : Bool := k == 3 || k == 8 || k == 9
def fRank (k : Nat) : Bool := k == 3 || k == 9
def fCredit (k : Nat) : Bool := k == 3 || k == 8
def fFrom (k : Nat) : Bool := k == 7
def fTo (k : Nat) : Bool := k == 7
def fBlob (k : Nat) : Bool := k == 9
def fOk (k : Nat) : Bool := decide (1 ≤ k ∧ k ≤ 12)

def formN (n : NoteD) : Bool :=
  fOk n.kind && decide (n.node < 16) && decide (n.rank < 16) && (decide (0 ≤ n.credit) && decide (n.credit ≤ 10000)) && decide (n.blob.length ≤ 1024) &&
  (fNode n.kind || n.node == 0) && (fEpoch n.kind || n.epoch == 0) && (fLife n.kind || n.life == 0) && (fTick n.kind || n.tick == 0) && (fGen n.kind || n.gen == 0) && (fJob n.kind || n.job == 0) &&
  (fVer n.kind || n.ver == 0) && (fRank n.kind || n.rank == 0) && (fCredit n.kind || n.credit == 0) && (fFrom n.kind || n.frm == 0) && (fTo n.kind || n.til == 0) && (fBlob n.kind || n.blob.length == 0)

def encN (n : NoteD) : List UInt8 := rowT n.nums n.blob
def noteL (n : NoteD) : List UInt8 × Int := if formN n then (tieL (encN n), 0) else ([], 4)

theorem formN_small {n : NoteD} (h : formN n = true) : n.node < 16 ∧ n.rank < 16 ∧ 0 ≤ n.credit ∧ n.credit ≤ 10000 ∧ n.blob.length ≤ 1024 := by
  unfold formN at h
  simp only [Bool.and_eq_true, decide_eq_true_eq] at h
  omega

theorem numL_len5 {n : Nat} (h : n < 4294967296) : (numL n).length ≤ 5 := numL_len 4 n (Nat.lt_of_lt_of_le h (by decide))
theorem numL_len2 {n : Nat} (h : n < 256) : (numL n).length ≤ 2 := numL_len 1 n (Nat.lt_of_lt_of_le h (by decide))

theorem NoteD.small {n : NoteD} (h : n.Ok) (hc : 0 ≤ n.credit) : Small n.nums := by
  have := h.kind; have := h.node; have := h.epoch; have := h.life; have := h.tick; have := h.gen; have := h.job; have := h.ver; have := h.rank; have := h.credit; have := h.frm; have := h.til
  intro x hx
  simp only [NoteD.nums, List.mem_cons, List.not_mem_nil, or_false] at hx
  omega

theorem encN_len {n : NoteD} (h : n.Ok) (hf : formN n = true) : (encN n).length ≤ 1200 := by
  obtain ⟨h1, h2, h3, h4, h5⟩ := formN_small hf
  have e1 := numL_len2 h.kind
  have e2 := numL_len2 h.node
  have e3 := numL_len5 h.epoch
  have e4 := numL_len5 h.life
  have e5 := numL_len5 h.tick
  have e6 := numL_len5 h.gen
  have e7 := numL_len5 h.job
  have e8 := numL_len5 h.ver
  have e9 := numL_len2 h.rank
  have e10 := numL_len5 (n := n.credit.toNat) (by omega)
  have e11 := numL_len5 h.frm
  have e12 := numL_len5 h.til
  have e13 := numL_len5 (n := n.blob.length) (by omega)
  have e14 := numL_len5 (n := 1) (by omega)
  unfold encN rowT rowN NoteD.nums
  simp only [List.flatMap_cons, List.flatMap_nil, List.length_append, List.append_nil]
  omega

/-! ### what is read: a note -/
/-- the numbers as they are kept -/
def cutN (l : List Nat) (c : Int) (f t : Nat) (b : List UInt8) : NoteD :=
  ⟨l.getD 1 0 % 256, l.getD 2 0 % 256, l.getD 3 0 % 4294967296, l.getD 4 0 % 4294967296, l.getD 5 0 % 4294967296, l.getD 6 0 % 4294967296, l.getD 7 0 % 4294967296, l.getD 8 0 % 4294967296, l.getD 9 0 % 256, c, f % 4294967296, t % 4294967296, b⟩
def greatN (l : List Nat) (f t : Nat) : Bool :=
  decide (255 < l.getD 1 0) || decide (255 < l.getD 2 0) || decide (4294967295 < l.getD 3 0) || decide (4294967295 < l.getD 4 0) || decide (4294967295 < l.getD 5 0) || decide (4294967295 < l.getD 6 0) || decide (4294967295 < l.getD 7 0) || decide (4294967295 < l.getD 8 0) || decide (255 < l.getD 9 0) || decide (4294967295 < f) || decide (4294967295 < t)

theorem intS_ok {s : St} {r : List UInt8} (h : (intS s).2 = (r, false)) : intS s = numS s ∧ (intS s).1 ≤ 2147483647 := by
  unfold intS at h ⊢
  split
  · rename_i h1
    rw [if_pos h1] at h
    cases h
  · exact ⟨rfl, by omega⟩
theorem intS_of {s : St} (h : (numS s).1 ≤ 2147483647) : intS s = numS s := by
  unfold intS; rw [if_neg (by omega)]
theorem boolS_ok {s : St} {r : List UInt8} (h : (boolS s).2 = (r, false)) : (numS s).2 = (r, false) ∧ (numS s).1 ≤ 1 ∧ (boolS s).1 = ((numS s).1 == 1) := by
  unfold boolS at h ⊢
  split
  · rename_i h1
    rw [if_pos h1] at h
    cases h
  · rename_i h1
    rw [if_neg h1] at h
    exact ⟨h, by omega, rfl⟩

/-! ### requests, replies, packets -/
structure ReqD where
  client : Nat
  seq : Nat
  kind : Nat
  tier : Nat
  k : Int
  w : Int
  job : Nat
structure ReqD.Ok (q : ReqD) : Prop where
  client : q.client < 256
  seq : q.seq < 4294967296
  kind : q.kind < 256
  tier : q.tier < 256
  k : -9223372036854775808 ≤ q.k ∧ q.k ≤ 9223372036854775807
  w : -9223372036854775808 ≤ q.w ∧ q.w ≤ 9223372036854775807
  job : q.job < 4294967296
def ReqD.nums (q : ReqD) : List Nat := [2, q.client, q.seq, q.kind, q.tier, q.k.toNat, q.w.toNat, q.job]
def reqZ : ReqD := ⟨0, 0, 0, 0, 0, 0, 0⟩
def formQ (q : ReqD) : Bool :=
  decide (q.client < 8) && (decide (0 ≤ q.k) && decide (q.k ≤ 2147483647)) && (decide (0 ≤ q.w) && decide (q.w ≤ 2147483647)) &&
  ((q.kind == 1 && q.job == 0) || ((q.kind == 2 || q.kind == 3) && (q.tier == 0 && q.k == 0 && q.w == 0)))
def encQ (q : ReqD) : List UInt8 := rowN q.nums
def reqL (q : ReqD) : List UInt8 × Int := if formQ q then (tieL (encQ q), 0) else ([], 4)

structure RepD where
  client : Nat
  seq : Nat
  e : Int
  job : Nat
  state : Nat
  credit : Int
structure RepD.Ok (r : RepD) : Prop where
  client : r.client < 256
  seq : r.seq < 4294967296
  e : -9223372036854775808 ≤ r.e ∧ r.e ≤ 9223372036854775807
  job : r.job < 4294967296
  state : r.state < 256
  credit : -9223372036854775808 ≤ r.credit ∧ r.credit ≤ 9223372036854775807
def RepD.nums (r : RepD) : List Nat := [3, r.client, r.seq, r.e.toNat, r.job, r.state, r.credit.toNat]
def repZ : RepD := ⟨0, 0, 0, 0, 0, 0⟩
def formR (r : RepD) : Bool :=
  decide (r.client < 8) && decide (0 ≤ r.e) && decide (r.e ≤ 16) && decide (r.state ≤ 5) && (decide (0 ≤ r.credit) && decide (r.credit ≤ 10000))
def encR (r : RepD) : List UInt8 := rowN r.nums
def repL (r : RepD) : List UInt8 × Int := if formR r then (tieL (encR r), 0) else ([], 4)

structure PakD where
  node : Nat
  epoch : Nat
  life : Nat
  seq : Nat
  ack : Nat
  plain : Bool
  data : List UInt8
structure PakD.Ok (k : PakD) : Prop where
  node : k.node < 256
  epoch : k.epoch < 4294967296
  life : k.life < 4294967296
  seq : k.seq < 4294967296
  ack : k.ack < 4294967296
def PakD.nums (k : PakD) : List Nat := [4, k.node, k.epoch, k.life, k.seq, k.ack, if k.plain then 1 else 0]
def pakZ : PakD := ⟨0, 0, 0, 0, 0, false, []⟩
def formP (k : PakD) : Bool := decide (k.node < 16) && decide (k.data.length ≤ 1984) && (!k.plain || k.seq == 0)
def encP (k : PakD) : List UInt8 := rowT k.nums k.data
def pakL (k : PakD) : List UInt8 × Int := if formP k then (tieL (encP k), 0) else ([], 4)

theorem formQ_small {q : ReqD} (h : formQ q = true) : q.client < 8 ∧ 0 ≤ q.k ∧ q.k ≤ 2147483647 ∧ 0 ≤ q.w ∧ q.w ≤ 2147483647 := by
  unfold formQ at h
  simp only [Bool.and_eq_true, decide_eq_true_eq] at h
  omega
theorem formR_small {r : RepD} (h : formR r = true) : r.client < 8 ∧ 0 ≤ r.e ∧ r.e ≤ 16 ∧ r.state ≤ 5 ∧ 0 ≤ r.credit ∧ r.credit ≤ 10000 := by
  unfold formR at h
  simp only [Bool.and_eq_true, decide_eq_true_eq] at h
  omega
theorem formP_small {k : PakD} (h : formP k = true) : k.node < 16 ∧ k.data.length ≤ 1984 := by
  unfold formP at h
  simp only [Bool.and_eq_true, decide_eq_true_eq] at h
  omega
theorem ReqD.small {q : ReqD} (h : q.Ok) : Small q.nums := by
  have := h.client; have := h.seq; have := h.kind; have := h.tier; have := h.k; have := h.w; have := h.job
  intro x hx
  simp only [ReqD.nums, List.mem_cons, List.not_mem_nil, or_false] at hx
  omega
theorem RepD.small {r : RepD} (h : r.Ok) : Small r.nums := by
  have := h.client; have := h.seq; have := h.e; have := h.job; have := h.state; have := h.credit
  intro x hx
  simp only [RepD.nums, List.mem_cons, List.not_mem_nil, or_false] at hx
  omega
theorem PakD.small {k : PakD} (h : k.Ok) : Small k.nums := by
  have := h.node; have := h.epoch; have := h.life; have := h.seq; have := h.ack
  intro x hx
  simp only [PakD.nums, List.mem_cons, List.not_mem_nil, or_false] at hx
  have : (if k.plain = true then 1 else 0) ≤ 1 := by split <;> omega
  omega
theorem encQ_len {q : ReqD} (h : q.Ok) (hf : formQ q = true) : (encQ q).length ≤ 100 := by
  obtain ⟨h1, h2, h3, h4, h5⟩ := formQ_small hf
  have e1 := numL_len5 (n := q.client) (by omega)
  have e2 := numL_len5 h.seq
  have e3 := numL_len2 h.kind
  have e4 := numL_len2 h.tier
  have e5 := numL_len5 (n := q.k.toNat) (by omega)
  have e6 := numL_len5 (n := q.w.toNat) (by omega)
  have e7 := numL_len5 h.job
  have e8 := numL_len5 (n := 2) (by omega)
  unfold encQ rowN ReqD.nums
  simp only [List.flatMap_cons, List.flatMap_nil, List.length_append, List.append_nil]
  omega
theorem encR_len {r : RepD} (h : r.Ok) (hf : formR r = true) : (encR r).length ≤ 100 := by
  obtain ⟨h1, h2, h3, h4, h5, h6⟩ := formR_small hf
  have e1 := numL_len5 (n := r.client) (by omega)
  have e2 := numL_len5 h.seq
  have e3 := numL_len5 (n := r.e.toNat) (by omega)
  have e4 := numL_len5 h.job
  have e5 := numL_len5 (n := r.state) (by omega)
  have e6 := numL_len5 (n := r.credit.toNat) (by omega)
  have e8 := numL_len5 (n := 3) (by omega)
  unfold encR rowN RepD.nums
  simp only [List.flatMap_cons, List.flatMap_nil, List.length_append, List.append_nil]
  omega
theorem encP_len {k : PakD} (h : k.Ok) (hf : formP k = true) : (encP k).length ≤ 2048 := by
  obtain ⟨h1, h2⟩ := formP_small hf
  have e1 := numL_len2 h.node
  have e2 := numL_len5 h.epoch
  have e3 := numL_len5 h.life
  have e4 := numL_len5 h.seq
  have e5 := numL_len5 h.ack
  have e6 := numL_len5 (n := if k.plain then 1 else 0) (by split <;> omega)
  have e7 := numL_len5 (n := k.data.length) (by omega)
  have e8 := numL_len5 (n := 4) (by omega)
  unfold encP rowT rowN PakD.nums
  simp only [List.flatMap_cons, List.flatMap_nil, List.length_append, List.append_nil]
  omega
end Go.Proofs.YtombndhjoaaaiaaDoor
