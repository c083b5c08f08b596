/- Plain: a request, a reply is read again. -/
import Derived.Test.YtmmcmldcbdaooaaDoorNoteHq
import Derived.Test.YtmmcmldcbdaooaaDoorNoteHr
namespace Go.Proofs.YtmmcmldcbdaooaaDoor
open Go.RowKit Go.Quad _root_.Quad _root_.Quad.Ink

theorem numS_rowN (n : Nat) (l : List Nat) (h : n < 18446744073709551616) : numS (rowN (n :: l), false) = (n, (rowN l, false)) := numS_row n (rowN l) h
theorem intS_rowN (n : Nat) (l : List Nat) (h : n ≤ 2147483647) : intS (rowN (n :: l), false) = (n, (rowN l, false)) := by
  have e := numS_rowN n l (by omega)
  rw [intS_of (by rw [e]; exact h), e]

theorem readreq_enc {q : ReqD} (h : q.Ok) (hf : formQ q = true) : readreqL (tieL (encQ q)) = (q, 0) := by
  have hu := untieL_tie (encQ q) (by have := encQ_len h hf; omega)
  obtain ⟨f1, f2, f3, f4, f5⟩ := formQ_small hf
  have o1 := h.client; have o2 := h.seq; have o3 := h.kind; have o4 := h.tier; have o7 := h.job
  have hf' := hf
  have e0 : numS (encQ q, false) = (2, (rowN [q.client, q.seq, q.kind, q.tier, q.k.toNat, q.w.toNat, q.job], false)) := numS_rowN 2 _ (by decide)
  have hr : rdreq (rowN [q.client, q.seq, q.kind, q.tier, q.k.toNat, q.w.toNat, q.job], false) = (q, false, ([], false)) := by
    simp only [rdreq, numS_rowN _ _ (show q.client < 18446744073709551616 by omega), numS_rowN _ _ (show q.seq < 18446744073709551616 by omega), numS_rowN _ _ (show q.kind < 18446744073709551616 by omega), numS_rowN _ _ (show q.tier < 18446744073709551616 by omega), intS_rowN _ _ (show q.k.toNat ≤ 2147483647 by omega), intS_rowN _ _ (show q.w.toNat ≤ 2147483647 by omega), numS_rowN _ _ (show q.job < 18446744073709551616 by omega)]
    have d1 : decide (255 < q.client) = false := by simp; omega
    have d2 : decide (4294967295 < q.seq) = false := by simp; omega
    have d3 : decide (255 < q.kind) = false := by simp; omega
    have d4 : decide (255 < q.tier) = false := by simp; omega
    have d5 : decide (4294967295 < q.job) = false := by simp; omega
    rw [d1, d2, d3, d4, d5, Nat.mod_eq_of_lt o1, Nat.mod_eq_of_lt o2, Nat.mod_eq_of_lt o3, Nat.mod_eq_of_lt o4, Nat.mod_eq_of_lt o7, Int.toNat_of_nonneg f2, Int.toNat_of_nonneg f4]
    rfl
  have := readreq_good (p := tieL (encQ q)) (by rw [hu]) (by rw [hu]; dsimp only; rw [e0]) (by rw [hu]; dsimp only; rw [e0]; dsimp only; rw [hr]) (by rw [hu]; dsimp only; rw [e0]; dsimp only; rw [hr]) (by rw [hu]; dsimp only; rw [e0]; dsimp only; rw [hr]; exact hf')
  rw [this, hu]
  dsimp only
  rw [e0]
  dsimp only
  rw [hr]

theorem readrep_enc {r : RepD} (h : r.Ok) (hf : formR r = true) : readrepL (tieL (encR r)) = (r, 0) := by
  have hu := untieL_tie (encR r) (by have := encR_len h hf; omega)
  obtain ⟨f1, f2, f3, f4, f5, f6⟩ := formR_small hf
  have o1 := h.client; have o2 := h.seq; have o3 := h.job; have o4 := h.state
  have hf' := hf
  have e0 : numS (encR r, false) = (3, (rowN [r.client, r.seq, r.e.toNat, r.job, r.state, r.credit.toNat], false)) := numS_rowN 3 _ (by decide)
  have hr : rdrep (rowN [r.client, r.seq, r.e.toNat, r.job, r.state, r.credit.toNat], false) = (r, false, ([], false)) := by
    simp only [rdrep, numS_rowN _ _ (show r.client < 18446744073709551616 by omega), numS_rowN _ _ (show r.seq < 18446744073709551616 by omega), intS_rowN _ _ (show r.e.toNat ≤ 2147483647 by omega), numS_rowN _ _ (show r.job < 18446744073709551616 by omega), numS_rowN _ _ (show r.state < 18446744073709551616 by omega), intS_rowN _ _ (show r.credit.toNat ≤ 2147483647 by omega)]
    have d1 : decide (255 < r.client) = false := by simp; omega
    have d2 : decide (4294967295 < r.seq) = false := by simp; omega
    have d3 : decide (4294967295 < r.job) = false := by simp; omega
    have d4 : decide (255 < r.state) = false := by simp; omega
    rw [d1, d2, d3, d4, Nat.mod_eq_of_lt o1, Nat.mod_eq_of_lt o2, Nat.mod_eq_of_lt o3, Nat.mod_eq_of_lt o4, Int.toNat_of_nonneg f2, Int.toNat_of_nonneg f5]
    rfl
  have := readrep_good (p := tieL (encR r)) (by rw [hu]) (by rw [hu]; dsimp only; rw [e0]) (by rw [hu]; dsimp only; rw [e0]; dsimp only; rw [hr]) (by rw [hu]; dsimp only; rw [e0]; dsimp only; rw [hr]) (by rw [hu]; dsimp only; rw [e0]; dsimp only; rw [hr]; exact hf')
  rw [this, hu]
  dsimp only
  rw [e0]
  dsimp only
  rw [hr]
end Go.Proofs.YtmmcmldcbdaooaaDoor
