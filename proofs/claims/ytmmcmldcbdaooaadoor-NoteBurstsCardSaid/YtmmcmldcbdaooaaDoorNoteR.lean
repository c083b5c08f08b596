/- Plain: a note, a packet is read again; fields cut short. -/
import Derived.Test.YtmmcmldcbdaooaaDoorNoteAskM
import Derived.Test.YtmmcmldcbdaooaaDoorNoteHn
import Derived.Test.YtmmcmldcbdaooaaDoorNoteHp
namespace Go.Proofs.YtmmcmldcbdaooaaDoor
open Go.RowKit Go.Quad _root_.Quad _root_.Quad.Ink

def cutNote (n : NoteD) (k : Nat) : NoteD := { n with blob := n.blob.take k }
def cutPak (n : PakD) (k : Nat) : PakD := { n with data := n.data.take k }
theorem cutNote_ok {n : NoteD} (h : n.Ok) (k : Nat) : (cutNote n k).Ok := ⟨h.1, h.2, h.3, h.4, h.5, h.6, h.7, h.8, h.9, h.10, h.11, h.12⟩
theorem cutPak_ok {n : PakD} (h : n.Ok) (k : Nat) : (cutPak n k).Ok := ⟨h.1, h.2, h.3, h.4, h.5⟩
theorem noteL_code (n : NoteD) : (formN n = true ∧ noteL n = (tieL (encN n), 0)) ∨ (formN n = false ∧ noteL n = ([], 4)) := by
  unfold noteL; cases formN n <;> simp
theorem pakL_code (n : PakD) : (formP n = true ∧ pakL n = (tieL (encP n), 0)) ∨ (formP n = false ∧ pakL n = ([], 4)) := by
  unfold pakL; cases formP n <;> simp

theorem numS_rowT (n : Nat) (l : List Nat) (t : List UInt8) (h : n < 18446744073709551616) : numS (rowT (n :: l) t, false) = (n, (rowT l t, false)) := by
  unfold rowT
  rw [rowN_cons, List.append_assoc]
  exact numS_row n _ h
theorem intS_rowT (n : Nat) (l : List Nat) (t : List UInt8) (h : n ≤ 2147483647) : intS (rowT (n :: l) t, false) = (n, (rowT l t, false)) := by
  have e := numS_rowT n l t (by omega)
  rw [intS_of (by rw [e]; exact h), e]
theorem boolS_rowT (b : Bool) (l : List Nat) (t : List UInt8) : boolS (rowT ((if b then 1 else 0) :: l) t, false) = (b, (rowT l t, false)) := by
  have e := numS_rowT (if b then 1 else 0) l t (by split <;> omega)
  unfold boolS
  rw [e]
  cases b <;> rfl
theorem textS_rowT (t : List UInt8) (h : t.length < 18446744073709551616) : textS (rowT [] t, false) = (t, ([], false)) := by
  have := textS_row t [] h
  rw [List.append_nil] at this
  exact this

theorem readnote_enc {n : NoteD} (h : n.Ok) (hf : formN n = true) : readnoteL (tieL (encN n)) = (n, 0) := by
  have hu := untieL_tie (encN n) (by have := encN_len h hf; omega)
  obtain ⟨f1, f2, f3, f4, f5⟩ := formN_small hf
  have o1 := h.kind; have o2 := h.node; have o3 := h.epoch; have o4 := h.life; have o5 := h.tick; have o6 := h.gen; have o7 := h.job; have o8 := h.ver; have o9 := h.rank; have o11 := h.frm; have o12 := h.til
  have hf' := hf
  have e0 : numS (encN n, false) = (1, (rowT [n.kind, n.node, n.epoch, n.life, n.tick, n.gen, n.job, n.ver, n.rank, n.credit.toNat, n.frm, n.til] n.blob, false)) := numS_rowT 1 _ _ (by decide)
  have hr : rdnote (rowT [n.kind, n.node, n.epoch, n.life, n.tick, n.gen, n.job, n.ver, n.rank, n.credit.toNat, n.frm, n.til] n.blob, false) = (n, false, ([], false)) := by
    simp only [rdnote, numS_rowT _ _ _ (show n.kind < 18446744073709551616 by omega), numS_rowT _ _ _ (show n.node < 18446744073709551616 by omega), numS_rowT _ _ _ (show n.epoch < 18446744073709551616 by omega), numS_rowT _ _ _ (show n.life < 18446744073709551616 by omega), numS_rowT _ _ _ (show n.tick < 18446744073709551616 by omega), numS_rowT _ _ _ (show n.gen < 18446744073709551616 by omega), numS_rowT _ _ _ (show n.job < 18446744073709551616 by omega), numS_rowT _ _ _ (show n.ver < 18446744073709551616 by omega), numS_rowT _ _ _ (show n.rank < 18446744073709551616 by omega), intS_rowT _ _ _ (show n.credit.toNat ≤ 2147483647 by omega), numS_rowT _ _ _ (show n.frm < 18446744073709551616 by omega), numS_rowT _ _ _ (show n.til < 18446744073709551616 by omega), textS_rowT _ (show n.blob.length < 18446744073709551616 by omega)]
    have d1 : decide (255 < n.kind) = false := by simp; omega
    have d2 : decide (255 < n.node) = false := by simp; omega
    have d3 : decide (4294967295 < n.epoch) = false := by simp; omega
    have d4 : decide (4294967295 < n.life) = false := by simp; omega
    have d5 : decide (4294967295 < n.tick) = false := by simp; omega
    have d6 : decide (4294967295 < n.gen) = false := by simp; omega
    have d7 : decide (4294967295 < n.job) = false := by simp; omega
    have d8 : decide (4294967295 < n.ver) = false := by simp; omega
    have d9 : decide (255 < n.rank) = false := by simp; omega
    have d11 : decide (4294967295 < n.frm) = false := by simp; omega
    have d12 : decide (4294967295 < n.til) = false := by simp; omega
    rw [d1, d2, d3, d4, d5, d6, d7, d8, d9, d11, d12, Nat.mod_eq_of_lt o1, Nat.mod_eq_of_lt o2, Nat.mod_eq_of_lt o3, Nat.mod_eq_of_lt o4, Nat.mod_eq_of_lt o5, Nat.mod_eq_of_lt o6, Nat.mod_eq_of_lt o7, Nat.mod_eq_of_lt o8, Nat.mod_eq_of_lt o9, Nat.mod_eq_of_lt o11, Nat.mod_eq_of_lt o12, Int.toNat_of_nonneg f3]
    rfl
  have := readnote_good (p := tieL (encN n)) (by rw [hu]) (by rw [hu]; dsimp only; rw [e0]) (by rw [hu]; dsimp only; rw [e0]; dsimp only; rw [hr]) (by rw [hu]; dsimp only; rw [e0]; dsimp only; rw [hr]) (by rw [hu]; dsimp only; rw [e0]; dsimp only; rw [hr]; exact hf')
  rw [this, hu]
  dsimp only
  rw [e0]
  dsimp only
  rw [hr]

theorem readpak_enc {n : PakD} (h : n.Ok) (hf : formP n = true) : readpakL (tieL (encP n)) = (n, 0) := by
  have hu := untieL_tie (encP n) (encP_len h hf)
  obtain ⟨f1, f2⟩ := formP_small hf
  have o1 := h.node; have o2 := h.epoch; have o3 := h.life; have o4 := h.seq; have o5 := h.ack
  have hf' := hf
  have e0 : numS (encP n, false) = (4, (rowT [n.node, n.epoch, n.life, n.seq, n.ack, if n.plain then 1 else 0] n.data, false)) := numS_rowT 4 _ _ (by decide)
  have hr : rdpak (rowT [n.node, n.epoch, n.life, n.seq, n.ack, if n.plain then 1 else 0] n.data, false) = (n, false, ([], false)) := by
    simp only [rdpak, numS_rowT _ _ _ (show n.node < 18446744073709551616 by omega), numS_rowT _ _ _ (show n.epoch < 18446744073709551616 by omega), numS_rowT _ _ _ (show n.life < 18446744073709551616 by omega), numS_rowT _ _ _ (show n.seq < 18446744073709551616 by omega), numS_rowT _ _ _ (show n.ack < 18446744073709551616 by omega), boolS_rowT, textS_rowT _ (show n.data.length < 18446744073709551616 by omega)]
    have d1 : decide (255 < n.node) = false := by simp; omega
    have d2 : decide (4294967295 < n.epoch) = false := by simp; omega
    have d3 : decide (4294967295 < n.life) = false := by simp; omega
    have d4 : decide (4294967295 < n.seq) = false := by simp; omega
    have d5 : decide (4294967295 < n.ack) = false := by simp; omega
    rw [d1, d2, d3, d4, d5, Nat.mod_eq_of_lt o1, Nat.mod_eq_of_lt o2, Nat.mod_eq_of_lt o3, Nat.mod_eq_of_lt o4, Nat.mod_eq_of_lt o5]
    rfl
  have := readpak_good (p := tieL (encP n)) (by rw [hu]) (by rw [hu]; dsimp only; rw [e0]) (by rw [hu]; dsimp only; rw [e0]; dsimp only; rw [hr]) (by rw [hu]; dsimp only; rw [e0]; dsimp only; rw [hr]) (by rw [hu]; dsimp only; rw [e0]; dsimp only; rw [hr]; exact hf')
  rw [this, hu]
  dsimp only
  rw [e0]
  dsimp only
  rw [hr]
end Go.Proofs.YtmmcmldcbdaooaaDoor
