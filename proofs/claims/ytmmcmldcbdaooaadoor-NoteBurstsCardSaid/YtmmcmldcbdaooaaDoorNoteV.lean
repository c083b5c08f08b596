/- Plain: of all bytes the program's readers and the document's tell the same. -/
import Derived.Test.YtmmcmldcbdaooaaDoorNoteUn
import Derived.Test.YtmmcmldcbdaooaaDoorNoteUq
import Derived.Test.YtmmcmldcbdaooaaDoorNoteUr
import Derived.Test.YtmmcmldcbdaooaaDoorNoteUp
import Derived.Test.YtmmcmldcbdaooaaDoorNoteAskM
namespace Go.Proofs.YtmmcmldcbdaooaaDoor
open Go.RowKit Go.Quad _root_.Quad _root_.Quad.Ink

theorem sg_nat {x : Int} (h : 0 ≤ x) (h2 : x ≤ 9223372036854775807) : sg x.toNat = x := by rw [sg_small (by omega)]; omega

theorem rdnote_key (s0 : St) : ∀ (x0 : Nat × St) (x1 : Nat × St) (x2 : Nat × St) (x3 : Nat × St) (x4 : Nat × St) (x5 : Nat × St) (x6 : Nat × St) (x7 : Nat × St) (x8 : Nat × St) (x9 : Nat × St) (x10 : Nat × St) (x11 : Nat × St) (x12 : List UInt8 × St), x0 = numS s0 → x1 = numS x0.2 → x2 = numS x1.2 → x3 = numS x2.2 → x4 = numS x3.2 → x5 = numS x4.2 → x6 = numS x5.2 → x7 = numS x6.2 → x8 = numS x7.2 → x9 = intS x8.2 → x10 = numS x9.2 → x11 = numS x10.2 → x12 = textS x11.2 → x12.2 = ([], false) → (((((((((((false || decide (255 < x0.1)) || decide (255 < x1.1)) || decide (4294967295 < x2.1)) || decide (4294967295 < x3.1)) || decide (4294967295 < x4.1)) || decide (4294967295 < x5.1)) || decide (4294967295 < x6.1)) || decide (4294967295 < x7.1)) || decide (255 < x8.1)) || decide (4294967295 < x10.1)) || decide (4294967295 < x11.1)) = false → s0 = (rowT [x0.1 % 256, x1.1 % 256, x2.1 % 4294967296, x3.1 % 4294967296, x4.1 % 4294967296, x5.1 % 4294967296, x6.1 % 4294967296, x7.1 % 4294967296, x8.1 % 256, ((x9.1 : Nat) : Int).toNat, x10.1 % 4294967296, x11.1 % 4294967296] x12.1, false) := by
  intro x0 x1 x2 x3 x4 x5 x6 x7 x8 x9 x10 x11 x12 e0 e1 e2 e3 e4 e5 e6 e7 e8 e9 e10 e11 e12 h1 h2
  simp only [Bool.or_eq_false_iff, decide_eq_false_iff_not, true_and] at h2
  have t12 := textS_ok (s := x11.2) (r := []) (by rw [← e12]; exact h1)
  rw [← e12] at t12
  have t11 := numS_ok (s := x10.2) (r := _) (by rw [← e11]; exact t12.1)
  rw [← e11] at t11
  have t10 := numS_ok (s := x9.2) (r := _) (by rw [← e10]; exact t11.1)
  rw [← e10] at t10
  have i9 := intS_ok (s := x8.2) (r := _) (by rw [← e9]; exact t10.1)
  have t9 := numS_ok (s := x8.2) (r := _) (by rw [← i9.1, ← e9]; exact t10.1)
  rw [← i9.1, ← e9] at t9
  have t8 := numS_ok (s := x7.2) (r := _) (by rw [← e8]; exact t9.1)
  rw [← e8] at t8
  have t7 := numS_ok (s := x6.2) (r := _) (by rw [← e7]; exact t8.1)
  rw [← e7] at t7
  have t6 := numS_ok (s := x5.2) (r := _) (by rw [← e6]; exact t7.1)
  rw [← e6] at t6
  have t5 := numS_ok (s := x4.2) (r := _) (by rw [← e5]; exact t6.1)
  rw [← e5] at t5
  have t4 := numS_ok (s := x3.2) (r := _) (by rw [← e4]; exact t5.1)
  rw [← e4] at t4
  have t3 := numS_ok (s := x2.2) (r := _) (by rw [← e3]; exact t4.1)
  rw [← e3] at t3
  have t2 := numS_ok (s := x1.2) (r := _) (by rw [← e2]; exact t3.1)
  rw [← e2] at t2
  have t1 := numS_ok (s := x0.2) (r := _) (by rw [← e1]; exact t2.1)
  rw [← e1] at t1
  have t0 := numS_ok (s := s0) (r := _) (by rw [← e0]; exact t1.1)
  rw [← e0] at t0
  rw [Nat.mod_eq_of_lt (show x0.1 < 256 by omega)]
  rw [Nat.mod_eq_of_lt (show x1.1 < 256 by omega)]
  rw [Nat.mod_eq_of_lt (show x2.1 < 4294967296 by omega)]
  rw [Nat.mod_eq_of_lt (show x3.1 < 4294967296 by omega)]
  rw [Nat.mod_eq_of_lt (show x4.1 < 4294967296 by omega)]
  rw [Nat.mod_eq_of_lt (show x5.1 < 4294967296 by omega)]
  rw [Nat.mod_eq_of_lt (show x6.1 < 4294967296 by omega)]
  rw [Nat.mod_eq_of_lt (show x7.1 < 4294967296 by omega)]
  rw [Nat.mod_eq_of_lt (show x8.1 < 256 by omega)]
  rw [Nat.mod_eq_of_lt (show x10.1 < 4294967296 by omega)]
  rw [Nat.mod_eq_of_lt (show x11.1 < 4294967296 by omega)]
  try simp only [Int.toNat_natCast]
  rw [t0.1]
  simp only [rowT, rowN, List.flatMap_cons, List.flatMap_nil, List.append_assoc, List.append_nil, List.nil_append]
theorem rdnote_canon (s0 : St) (h1 : (rdnote s0).2.2 = ([], false)) (h2 : (rdnote s0).2.1 = false) : s0 = (rowT [(rdnote s0).1.kind, (rdnote s0).1.node, (rdnote s0).1.epoch, (rdnote s0).1.life, (rdnote s0).1.tick, (rdnote s0).1.gen, (rdnote s0).1.job, (rdnote s0).1.ver, (rdnote s0).1.rank, (rdnote s0).1.credit.toNat, (rdnote s0).1.frm, (rdnote s0).1.til] (rdnote s0).1.blob, false) :=
  rdnote_key s0 _ _ _ _ _ _ _ _ _ _ _ _ _ rfl rfl rfl rfl rfl rfl rfl rfl rfl rfl rfl rfl rfl h1 h2
theorem readnote_canon {p : List UInt8} {n : NoteD} (h : readnoteL p = (n, 0)) : n.Ok ∧ formN n = true ∧ p = tieL (encN n) := by
  by_cases h0 : (untieL p).2 = 0
  · have hu : untieL p = ((untieL p).1, 0) := by rw [← h0]
    have hp := (untieL_ok hu).2
    unfold readnoteL at h
    rw [if_neg (by simpa using h0)] at h
    by_cases hc : (numS ((untieL p).1, false)).1 = 1 ∧ (rdnote (numS ((untieL p).1, false)).2).2.2 = ([], false) ∧ (rdnote (numS ((untieL p).1, false)).2).2.1 = false ∧ formN (rdnote (numS ((untieL p).1, false)).2).1 = true
    · rw [if_pos hc] at h
      obtain ⟨c1, c2, c3, c4⟩ := hc
      have hn : (rdnote (numS ((untieL p).1, false)).2).1 = n := congrArg (·.1) h
      have e := rdnote_canon _ c2 c3
      have k := (numS_ok e).1
      rw [hn] at k c4
      rw [c1] at k
      refine ⟨by rw [← hn]; exact rdnote_ok _, c4, ?_⟩
      have e3 : (untieL p).1 = encN n := (congrArg (·.1) k).trans (List.append_assoc (numL 1) (rowN _) _).symm
      rw [← e3]
      exact hp
    · rw [if_neg hc] at h
      have := congrArg (·.2) h
      exact absurd this (by show ¬ ((4 : Int) = 0); decide)
  · rw [readnote_err h0] at h
    exact (h0 (congrArg (·.2) h)).elim
theorem readnote_cases {p : List UInt8} (h0 : (untieL p).2 = 0) : (∃ n, readnoteL p = (n, 0)) ∨ readnoteL p = (noteZ, 4) := by
  unfold readnoteL
  rw [if_neg (by simpa using h0)]
  split
  · exact .inl ⟨_, rfl⟩
  · exact .inr rfl
theorem rownote_enc {n : NoteD} (h : n.Ok) (hf : formN n = true) : rowL (tieL (encN n)) 13 true = (n.nums, n.blob, 0) := by
  have hu := untieL_tie (encN n) (by have := encN_len h hf; omega)
  obtain ⟨f0, f1, f2, f3, f4⟩ := formN_small hf
  unfold rowL rowR
  rw [hu]
  obtain ⟨a1, a2⟩ := rowT_read n.nums n.blob (NoteD.small h (by omega)) (by omega)
  have hlen : n.nums.length = 13 := rfl
  rw [hlen] at a1
  unfold encN
  dsimp only
  rw [if_neg (by simp), a1]
  dsimp only
  simp only [if_true, a2]
theorem docN_nums {n : NoteD} (h : n.Ok) (hf : formN n = true) : docN n.nums n.blob = n := by
  obtain ⟨f0, f1, f2, f3, f4⟩ := formN_small hf
  have o_kind := Nat.mod_eq_of_lt h.kind
  have o_node := Nat.mod_eq_of_lt h.node
  have o_epoch := Nat.mod_eq_of_lt h.epoch
  have o_life := Nat.mod_eq_of_lt h.life
  have o_tick := Nat.mod_eq_of_lt h.tick
  have o_gen := Nat.mod_eq_of_lt h.gen
  have o_job := Nat.mod_eq_of_lt h.job
  have o_ver := Nat.mod_eq_of_lt h.ver
  have o_rank := Nat.mod_eq_of_lt h.rank
  have o_credit := sg_nat (x := n.credit) (by omega) (by omega)
  have o_frm := Nat.mod_eq_of_lt h.frm
  have o_til := Nat.mod_eq_of_lt h.til
  show NoteD.mk (n.kind % 256) (n.node % 256) (n.epoch % 4294967296) (n.life % 4294967296) (n.tick % 4294967296) (n.gen % 4294967296) (n.job % 4294967296) (n.ver % 4294967296) (n.rank % 256) (sg n.credit.toNat) (n.frm % 4294967296) (n.til % 4294967296) n.blob = n
  rw [o_kind, o_node, o_epoch, o_life, o_tick, o_gen, o_job, o_ver, o_rank, o_credit, o_frm, o_til]
theorem refreadnote_enc {n : NoteD} (h : n.Ok) (hf : formN n = true) : refreadnoteL (tieL (encN n)) = (n, 0) := by
  have hL : noteL n = (tieL (encN n), 0) := by unfold noteL; rw [if_pos hf]
  unfold refreadnoteL
  rw [rownote_enc h hf]
  dsimp only
  rw [docN_nums h hf, hL, if_neg (by simp), if_pos ⟨rfl, rfl⟩]
theorem readnote_ref (p : List UInt8) : readnoteL p = refreadnoteL p := by
  by_cases h0 : (untieL p).2 = 0
  · by_cases hg : ∃ n : NoteD, n.Ok ∧ formN n = true ∧ p = tieL (encN n)
    · obtain ⟨n, ho, hf, rfl⟩ := hg
      rw [readnote_enc ho hf, refreadnote_enc ho hf]
    · rcases readnote_cases h0 with ⟨n, h⟩ | h
      · exact (hg ⟨n, readnote_canon h⟩).elim
      · rw [h]
        unfold refreadnoteL
        by_cases h1 : (rowL p 13 true).2.2 ≠ 0
        · rw [if_pos h1]
          have h4 : (rowL p 13 true).2.2 = 4 := by
            unfold rowL rowR at h1 ⊢
            rw [if_neg (by simpa using h0)] at h1 ⊢
            generalize (if true = true then _ else _ : List UInt8 × St) = z at h1 ⊢
            by_cases hz : z.2 = ([], false)
            · rw [if_pos hz] at h1; exact (h1 rfl).elim
            · rw [if_neg hz]
          rw [h4]
        · rw [if_neg h1]
          by_cases hc : (noteL (docN (rowL p 13 true).1 (rowL p 13 true).2.1)).2 = 0 ∧ p = (noteL (docN (rowL p 13 true).1 (rowL p 13 true).2.1)).1
          · obtain ⟨c1, c2⟩ := hc
            have hsm : Small (rowL p 13 true).1 := (rowL_ok (l := (rowL p 13 true).1) (b := (rowL p 13 true).2.1) (by rw [← Decidable.not_not.1 h1])).2.1
            have ho := docN_ok (rowL p 13 true).1 (rowL p 13 true).2.1 hsm
            rcases noteL_code (docN (rowL p 13 true).1 (rowL p 13 true).2.1) with ⟨f, z⟩ | ⟨f, z⟩
            · rw [z] at c2
              exact (hg ⟨_, ho, f, c2⟩).elim
            · rw [z] at c1
              exact absurd c1 (by decide)
          · rw [if_neg hc]
  · rw [readnote_err h0]
    unfold refreadnoteL
    have : rowL p 13 true = ([], [], (untieL p).2) := by unfold rowL; rw [if_pos h0]
    rw [this]
    dsimp only
    rw [if_pos h0]

theorem rdreq_key (s0 : St) : ∀ (x0 : Nat × St) (x1 : Nat × St) (x2 : Nat × St) (x3 : Nat × St) (x4 : Nat × St) (x5 : Nat × St) (x6 : Nat × St), x0 = numS s0 → x1 = numS x0.2 → x2 = numS x1.2 → x3 = numS x2.2 → x4 = intS x3.2 → x5 = intS x4.2 → x6 = numS x5.2 → x6.2 = ([], false) → (((((false || decide (255 < x0.1)) || decide (4294967295 < x1.1)) || decide (255 < x2.1)) || decide (255 < x3.1)) || decide (4294967295 < x6.1)) = false → s0 = (rowN [x0.1 % 256, x1.1 % 4294967296, x2.1 % 256, x3.1 % 256, ((x4.1 : Nat) : Int).toNat, ((x5.1 : Nat) : Int).toNat, x6.1 % 4294967296], false) := by
  intro x0 x1 x2 x3 x4 x5 x6 e0 e1 e2 e3 e4 e5 e6 h1 h2
  simp only [Bool.or_eq_false_iff, decide_eq_false_iff_not, true_and] at h2
  have t6 := numS_ok (s := x5.2) (r := _) (by rw [← e6]; exact h1)
  rw [← e6] at t6
  have i5 := intS_ok (s := x4.2) (r := _) (by rw [← e5]; exact t6.1)
  have t5 := numS_ok (s := x4.2) (r := _) (by rw [← i5.1, ← e5]; exact t6.1)
  rw [← i5.1, ← e5] at t5
  have i4 := intS_ok (s := x3.2) (r := _) (by rw [← e4]; exact t5.1)
  have t4 := numS_ok (s := x3.2) (r := _) (by rw [← i4.1, ← e4]; exact t5.1)
  rw [← i4.1, ← e4] at t4
  have t3 := numS_ok (s := x2.2) (r := _) (by rw [← e3]; exact t4.1)
  rw [← e3] at t3
  have t2 := numS_ok (s := x1.2) (r := _) (by rw [← e2]; exact t3.1)
  rw [← e2] at t2
  have t1 := numS_ok (s := x0.2) (r := _) (by rw [← e1]; exact t2.1)
  rw [← e1] at t1
  have t0 := numS_ok (s := s0) (r := _) (by rw [← e0]; exact t1.1)
  rw [← e0] at t0
  rw [Nat.mod_eq_of_lt (show x0.1 < 256 by omega)]
  rw [Nat.mod_eq_of_lt (show x1.1 < 4294967296 by omega)]
  rw [Nat.mod_eq_of_lt (show x2.1 < 256 by omega)]
  rw [Nat.mod_eq_of_lt (show x3.1 < 256 by omega)]
  rw [Nat.mod_eq_of_lt (show x6.1 < 4294967296 by omega)]
  try simp only [Int.toNat_natCast]
  rw [t0.1]
  simp only [rowT, rowN, List.flatMap_cons, List.flatMap_nil, List.append_assoc, List.append_nil, List.nil_append]
theorem rdreq_canon (s0 : St) (h1 : (rdreq s0).2.2 = ([], false)) (h2 : (rdreq s0).2.1 = false) : s0 = (rowN [(rdreq s0).1.client, (rdreq s0).1.seq, (rdreq s0).1.kind, (rdreq s0).1.tier, (rdreq s0).1.k.toNat, (rdreq s0).1.w.toNat, (rdreq s0).1.job], false) :=
  rdreq_key s0 _ _ _ _ _ _ _ rfl rfl rfl rfl rfl rfl rfl h1 h2
theorem readreq_canon {p : List UInt8} {n : ReqD} (h : readreqL p = (n, 0)) : n.Ok ∧ formQ n = true ∧ p = tieL (encQ n) := by
  by_cases h0 : (untieL p).2 = 0
  · have hu : untieL p = ((untieL p).1, 0) := by rw [← h0]
    have hp := (untieL_ok hu).2
    unfold readreqL at h
    rw [if_neg (by simpa using h0)] at h
    by_cases hc : (numS ((untieL p).1, false)).1 = 2 ∧ (rdreq (numS ((untieL p).1, false)).2).2.2 = ([], false) ∧ (rdreq (numS ((untieL p).1, false)).2).2.1 = false ∧ formQ (rdreq (numS ((untieL p).1, false)).2).1 = true
    · rw [if_pos hc] at h
      obtain ⟨c1, c2, c3, c4⟩ := hc
      have hn : (rdreq (numS ((untieL p).1, false)).2).1 = n := congrArg (·.1) h
      have e := rdreq_canon _ c2 c3
      have k := (numS_ok e).1
      rw [hn] at k c4
      rw [c1] at k
      refine ⟨by rw [← hn]; exact rdreq_ok _, c4, ?_⟩
      have e3 : (untieL p).1 = encQ n := congrArg (·.1) k
      rw [← e3]
      exact hp
    · rw [if_neg hc] at h
      have := congrArg (·.2) h
      exact absurd this (by show ¬ ((4 : Int) = 0); decide)
  · rw [readreq_err h0] at h
    exact (h0 (congrArg (·.2) h)).elim
theorem readreq_cases {p : List UInt8} (h0 : (untieL p).2 = 0) : (∃ n, readreqL p = (n, 0)) ∨ readreqL p = (reqZ, 4) := by
  unfold readreqL
  rw [if_neg (by simpa using h0)]
  split
  · exact .inl ⟨_, rfl⟩
  · exact .inr rfl
theorem rowreq_enc {n : ReqD} (h : n.Ok) (hf : formQ n = true) : rowL (tieL (encQ n)) 8 false = (n.nums, [], 0) := by
  have hu := untieL_tie (encQ n) (by have := encQ_len h hf; omega)
  obtain ⟨f0, f1, f2, f3, f4⟩ := formQ_small hf
  unfold rowL rowR
  rw [hu]
  have a1 := rowN_read n.nums (ReqD.small h)
  have hlen : n.nums.length = 8 := rfl
  rw [hlen] at a1
  unfold encQ
  dsimp only
  rw [if_neg (by simp), a1]
  simp
theorem docQ_nums {n : ReqD} (h : n.Ok) (hf : formQ n = true) : docQ n.nums [] = n := by
  obtain ⟨f0, f1, f2, f3, f4⟩ := formQ_small hf
  have o_client := Nat.mod_eq_of_lt h.client
  have o_seq := Nat.mod_eq_of_lt h.seq
  have o_kind := Nat.mod_eq_of_lt h.kind
  have o_tier := Nat.mod_eq_of_lt h.tier
  have o_k := sg_nat (x := n.k) (by omega) (by omega)
  have o_w := sg_nat (x := n.w) (by omega) (by omega)
  have o_job := Nat.mod_eq_of_lt h.job
  show ReqD.mk (n.client % 256) (n.seq % 4294967296) (n.kind % 256) (n.tier % 256) (sg n.k.toNat) (sg n.w.toNat) (n.job % 4294967296) = n
  rw [o_client, o_seq, o_kind, o_tier, o_k, o_w, o_job]
theorem refreadreq_enc {n : ReqD} (h : n.Ok) (hf : formQ n = true) : refreadreqL (tieL (encQ n)) = (n, 0) := by
  have hL : reqL n = (tieL (encQ n), 0) := by unfold reqL; rw [if_pos hf]
  unfold refreadreqL
  rw [rowreq_enc h hf]
  dsimp only
  rw [docQ_nums h hf, hL, if_neg (by simp), if_pos ⟨rfl, rfl⟩]
theorem readreq_ref (p : List UInt8) : readreqL p = refreadreqL p := by
  by_cases h0 : (untieL p).2 = 0
  · by_cases hg : ∃ n : ReqD, n.Ok ∧ formQ n = true ∧ p = tieL (encQ n)
    · obtain ⟨n, ho, hf, rfl⟩ := hg
      rw [readreq_enc ho hf, refreadreq_enc ho hf]
    · rcases readreq_cases h0 with ⟨n, h⟩ | h
      · exact (hg ⟨n, readreq_canon h⟩).elim
      · rw [h]
        unfold refreadreqL
        by_cases h1 : (rowL p 8 false).2.2 ≠ 0
        · rw [if_pos h1]
          have h4 : (rowL p 8 false).2.2 = 4 := by
            unfold rowL rowR at h1 ⊢
            rw [if_neg (by simpa using h0)] at h1 ⊢
            generalize (if false = true then _ else _ : List UInt8 × St) = z at h1 ⊢
            by_cases hz : z.2 = ([], false)
            · rw [if_pos hz] at h1; exact (h1 rfl).elim
            · rw [if_neg hz]
          rw [h4]
        · rw [if_neg h1]
          by_cases hc : (reqL (docQ (rowL p 8 false).1 (rowL p 8 false).2.1)).2 = 0 ∧ p = (reqL (docQ (rowL p 8 false).1 (rowL p 8 false).2.1)).1
          · obtain ⟨c1, c2⟩ := hc
            have hsm : Small (rowL p 8 false).1 := (rowL_ok (l := (rowL p 8 false).1) (b := (rowL p 8 false).2.1) (by rw [← Decidable.not_not.1 h1])).2.1
            have ho := docQ_ok (rowL p 8 false).1 (rowL p 8 false).2.1 hsm
            rcases reqL_code (docQ (rowL p 8 false).1 (rowL p 8 false).2.1) with ⟨f, z⟩ | ⟨f, z⟩
            · rw [z] at c2
              exact (hg ⟨_, ho, f, c2⟩).elim
            · rw [z] at c1
              exact absurd c1 (by decide)
          · rw [if_neg hc]
  · rw [readreq_err h0]
    unfold refreadreqL
    have : rowL p 8 false = ([], [], (untieL p).2) := by unfold rowL; rw [if_pos h0]
    rw [this]
    dsimp only
    rw [if_pos h0]

theorem rdrep_key (s0 : St) : ∀ (x0 : Nat × St) (x1 : Nat × St) (x2 : Nat × St) (x3 : Nat × St) (x4 : Nat × St) (x5 : Nat × St), x0 = numS s0 → x1 = numS x0.2 → x2 = intS x1.2 → x3 = numS x2.2 → x4 = numS x3.2 → x5 = intS x4.2 → x5.2 = ([], false) → ((((false || decide (255 < x0.1)) || decide (4294967295 < x1.1)) || decide (4294967295 < x3.1)) || decide (255 < x4.1)) = false → s0 = (rowN [x0.1 % 256, x1.1 % 4294967296, ((x2.1 : Nat) : Int).toNat, x3.1 % 4294967296, x4.1 % 256, ((x5.1 : Nat) : Int).toNat], false) := by
  intro x0 x1 x2 x3 x4 x5 e0 e1 e2 e3 e4 e5 h1 h2
  simp only [Bool.or_eq_false_iff, decide_eq_false_iff_not, true_and] at h2
  have i5 := intS_ok (s := x4.2) (r := _) (by rw [← e5]; exact h1)
  have t5 := numS_ok (s := x4.2) (r := _) (by rw [← i5.1, ← e5]; exact h1)
  rw [← i5.1, ← e5] at t5
  have t4 := numS_ok (s := x3.2) (r := _) (by rw [← e4]; exact t5.1)
  rw [← e4] at t4
  have t3 := numS_ok (s := x2.2) (r := _) (by rw [← e3]; exact t4.1)
  rw [← e3] at t3
  have i2 := intS_ok (s := x1.2) (r := _) (by rw [← e2]; exact t3.1)
  have t2 := numS_ok (s := x1.2) (r := _) (by rw [← i2.1, ← e2]; exact t3.1)
  rw [← i2.1, ← e2] at t2
  have t1 := numS_ok (s := x0.2) (r := _) (by rw [← e1]; exact t2.1)
  rw [← e1] at t1
  have t0 := numS_ok (s := s0) (r := _) (by rw [← e0]; exact t1.1)
  rw [← e0] at t0
  rw [Nat.mod_eq_of_lt (show x0.1 < 256 by omega)]
  rw [Nat.mod_eq_of_lt (show x1.1 < 4294967296 by omega)]
  rw [Nat.mod_eq_of_lt (show x3.1 < 4294967296 by omega)]
  rw [Nat.mod_eq_of_lt (show x4.1 < 256 by omega)]
  try simp only [Int.toNat_natCast]
  rw [t0.1]
  simp only [rowT, rowN, List.flatMap_cons, List.flatMap_nil, List.append_assoc, List.append_nil, List.nil_append]
theorem rdrep_canon (s0 : St) (h1 : (rdrep s0).2.2 = ([], false)) (h2 : (rdrep s0).2.1 = false) : s0 = (rowN [(rdrep s0).1.client, (rdrep s0).1.seq, (rdrep s0).1.e.toNat, (rdrep s0).1.job, (rdrep s0).1.state, (rdrep s0).1.credit.toNat], false) :=
  rdrep_key s0 _ _ _ _ _ _ rfl rfl rfl rfl rfl rfl h1 h2
theorem readrep_canon {p : List UInt8} {n : RepD} (h : readrepL p = (n, 0)) : n.Ok ∧ formR n = true ∧ p = tieL (encR n) := by
  by_cases h0 : (untieL p).2 = 0
  · have hu : untieL p = ((untieL p).1, 0) := by rw [← h0]
    have hp := (untieL_ok hu).2
    unfold readrepL at h
    rw [if_neg (by simpa using h0)] at h
    by_cases hc : (numS ((untieL p).1, false)).1 = 3 ∧ (rdrep (numS ((untieL p).1, false)).2).2.2 = ([], false) ∧ (rdrep (numS ((untieL p).1, false)).2).2.1 = false ∧ formR (rdrep (numS ((untieL p).1, false)).2).1 = true
    · rw [if_pos hc] at h
      obtain ⟨c1, c2, c3, c4⟩ := hc
      have hn : (rdrep (numS ((untieL p).1, false)).2).1 = n := congrArg (·.1) h
      have e := rdrep_canon _ c2 c3
      have k := (numS_ok e).1
      rw [hn] at k c4
      rw [c1] at k
      refine ⟨by rw [← hn]; exact rdrep_ok _, c4, ?_⟩
      have e3 : (untieL p).1 = encR n := congrArg (·.1) k
      rw [← e3]
      exact hp
    · rw [if_neg hc] at h
      have := congrArg (·.2) h
      exact absurd this (by show ¬ ((4 : Int) = 0); decide)
  · rw [readrep_err h0] at h
    exact (h0 (congrArg (·.2) h)).elim
theorem readrep_cases {p : List UInt8} (h0 : (untieL p).2 = 0) : (∃ n, readrepL p = (n, 0)) ∨ readrepL p = (repZ, 4) := by
  unfold readrepL
  rw [if_neg (by simpa using h0)]
  split
  · exact .inl ⟨_, rfl⟩
  · exact .inr rfl
theorem rowrep_enc {n : RepD} (h : n.Ok) (hf : formR n = true) : rowL (tieL (encR n)) 7 false = (n.nums, [], 0) := by
  have hu := untieL_tie (encR n) (by have := encR_len h hf; omega)
  obtain ⟨f0, f1, f2, f3, f4, f5⟩ := formR_small hf
  unfold rowL rowR
  rw [hu]
  have a1 := rowN_read n.nums (RepD.small h)
  have hlen : n.nums.length = 7 := rfl
  rw [hlen] at a1
  unfold encR
  dsimp only
  rw [if_neg (by simp), a1]
  simp
theorem docR_nums {n : RepD} (h : n.Ok) (hf : formR n = true) : docR n.nums [] = n := by
  obtain ⟨f0, f1, f2, f3, f4, f5⟩ := formR_small hf
  have o_client := Nat.mod_eq_of_lt h.client
  have o_seq := Nat.mod_eq_of_lt h.seq
  have o_e := sg_nat (x := n.e) (by omega) (by omega)
  have o_job := Nat.mod_eq_of_lt h.job
  have o_state := Nat.mod_eq_of_lt h.state
  have o_credit := sg_nat (x := n.credit) (by omega) (by omega)
  show RepD.mk (n.client % 256) (n.seq % 4294967296) (sg n.e.toNat) (n.job % 4294967296) (n.state % 256) (sg n.credit.toNat) = n
  rw [o_client, o_seq, o_e, o_job, o_state, o_credit]
theorem refreadrep_enc {n : RepD} (h : n.Ok) (hf : formR n = true) : refreadrepL (tieL (encR n)) = (n, 0) := by
  have hL : repL n = (tieL (encR n), 0) := by unfold repL; rw [if_pos hf]
  unfold refreadrepL
  rw [rowrep_enc h hf]
  dsimp only
  rw [docR_nums h hf, hL, if_neg (by simp), if_pos ⟨rfl, rfl⟩]
theorem readrep_ref (p : List UInt8) : readrepL p = refreadrepL p := by
  by_cases h0 : (untieL p).2 = 0
  · by_cases hg : ∃ n : RepD, n.Ok ∧ formR n = true ∧ p = tieL (encR n)
    · obtain ⟨n, ho, hf, rfl⟩ := hg
      rw [readrep_enc ho hf, refreadrep_enc ho hf]
    · rcases readrep_cases h0 with ⟨n, h⟩ | h
      · exact (hg ⟨n, readrep_canon h⟩).elim
      · rw [h]
        unfold refreadrepL
        by_cases h1 : (rowL p 7 false).2.2 ≠ 0
        · rw [if_pos h1]
          have h4 : (rowL p 7 false).2.2 = 4 := by
            unfold rowL rowR at h1 ⊢
            rw [if_neg (by simpa using h0)] at h1 ⊢
            generalize (if false = true then _ else _ : List UInt8 × St) = z at h1 ⊢
            by_cases hz : z.2 = ([], false)
            · rw [if_pos hz] at h1; exact (h1 rfl).elim
            · rw [if_neg hz]
          rw [h4]
        · rw [if_neg h1]
          by_cases hc : (repL (docR (rowL p 7 false).1 (rowL p 7 false).2.1)).2 = 0 ∧ p = (repL (docR (rowL p 7 false).1 (rowL p 7 false).2.1)).1
          · obtain ⟨c1, c2⟩ := hc
            have hsm : Small (rowL p 7 false).1 := (rowL_ok (l := (rowL p 7 false).1) (b := (rowL p 7 false).2.1) (by rw [← Decidable.not_not.1 h1])).2.1
            have ho := docR_ok (rowL p 7 false).1 (rowL p 7 false).2.1 hsm
            rcases repL_code (docR (rowL p 7 false).1 (rowL p 7 false).2.1) with ⟨f, z⟩ | ⟨f, z⟩
            · rw [z] at c2
              exact (hg ⟨_, ho, f, c2⟩).elim
            · rw [z] at c1
              exact absurd c1 (by decide)
          · rw [if_neg hc]
  · rw [readrep_err h0]
    unfold refreadrepL
    have : rowL p 7 false = ([], [], (untieL p).2) := by unfold rowL; rw [if_pos h0]
    rw [this]
    dsimp only
    rw [if_pos h0]

theorem rdpak_key (s0 : St) : ∀ (x0 : Nat × St) (x1 : Nat × St) (x2 : Nat × St) (x3 : Nat × St) (x4 : Nat × St) (x5 : Bool × St) (x6 : List UInt8 × St), x0 = numS s0 → x1 = numS x0.2 → x2 = numS x1.2 → x3 = numS x2.2 → x4 = numS x3.2 → x5 = boolS x4.2 → x6 = textS x5.2 → x6.2 = ([], false) → (((((false || decide (255 < x0.1)) || decide (4294967295 < x1.1)) || decide (4294967295 < x2.1)) || decide (4294967295 < x3.1)) || decide (4294967295 < x4.1)) = false → s0 = (rowT [x0.1 % 256, x1.1 % 4294967296, x2.1 % 4294967296, x3.1 % 4294967296, x4.1 % 4294967296, if x5.1 then 1 else 0] x6.1, false) := by
  intro x0 x1 x2 x3 x4 x5 x6 e0 e1 e2 e3 e4 e5 e6 h1 h2
  simp only [Bool.or_eq_false_iff, decide_eq_false_iff_not, true_and] at h2
  have t6 := textS_ok (s := x5.2) (r := []) (by rw [← e6]; exact h1)
  rw [← e6] at t6
  have i5 := boolS_ok (s := x4.2) (r := _) (by rw [← e5]; exact t6.1)
  rw [← e5] at i5
  have v5 : (if x5.1 then 1 else 0) = (numS (x4.2)).1 := by
    rw [i5.2.2]
    have := i5.2.1
    generalize (numS (x4.2)).1 = y at this ⊢
    rcases Nat.le_one_iff_eq_zero_or_eq_one.1 this with rfl | rfl <;> rfl
  have t5 := numS_ok (s := x4.2) (r := _) i5.1
  rw [← v5] at t5
  have t4 := numS_ok (s := x3.2) (r := _) (by rw [← e4]; exact t5.1)
  rw [← e4] at t4
  have t3 := numS_ok (s := x2.2) (r := _) (by rw [← e3]; exact t4.1)
  rw [← e3] at t3
  have t2 := numS_ok (s := x1.2) (r := _) (by rw [← e2]; exact t3.1)
  rw [← e2] at t2
  have t1 := numS_ok (s := x0.2) (r := _) (by rw [← e1]; exact t2.1)
  rw [← e1] at t1
  have t0 := numS_ok (s := s0) (r := _) (by rw [← e0]; exact t1.1)
  rw [← e0] at t0
  rw [Nat.mod_eq_of_lt (show x0.1 < 256 by omega)]
  rw [Nat.mod_eq_of_lt (show x1.1 < 4294967296 by omega)]
  rw [Nat.mod_eq_of_lt (show x2.1 < 4294967296 by omega)]
  rw [Nat.mod_eq_of_lt (show x3.1 < 4294967296 by omega)]
  rw [Nat.mod_eq_of_lt (show x4.1 < 4294967296 by omega)]
  try simp only [Int.toNat_natCast]
  rw [t0.1]
  simp only [rowT, rowN, List.flatMap_cons, List.flatMap_nil, List.append_assoc, List.append_nil, List.nil_append]
theorem rdpak_canon (s0 : St) (h1 : (rdpak s0).2.2 = ([], false)) (h2 : (rdpak s0).2.1 = false) : s0 = (rowT [(rdpak s0).1.node, (rdpak s0).1.epoch, (rdpak s0).1.life, (rdpak s0).1.seq, (rdpak s0).1.ack, if (rdpak s0).1.plain then 1 else 0] (rdpak s0).1.data, false) :=
  rdpak_key s0 _ _ _ _ _ _ _ rfl rfl rfl rfl rfl rfl rfl h1 h2
theorem readpak_canon {p : List UInt8} {n : PakD} (h : readpakL p = (n, 0)) : n.Ok ∧ formP n = true ∧ p = tieL (encP n) := by
  by_cases h0 : (untieL p).2 = 0
  · have hu : untieL p = ((untieL p).1, 0) := by rw [← h0]
    have hp := (untieL_ok hu).2
    unfold readpakL at h
    rw [if_neg (by simpa using h0)] at h
    by_cases hc : (numS ((untieL p).1, false)).1 = 4 ∧ (rdpak (numS ((untieL p).1, false)).2).2.2 = ([], false) ∧ (rdpak (numS ((untieL p).1, false)).2).2.1 = false ∧ formP (rdpak (numS ((untieL p).1, false)).2).1 = true
    · rw [if_pos hc] at h
      obtain ⟨c1, c2, c3, c4⟩ := hc
      have hn : (rdpak (numS ((untieL p).1, false)).2).1 = n := congrArg (·.1) h
      have e := rdpak_canon _ c2 c3
      have k := (numS_ok e).1
      rw [hn] at k c4
      rw [c1] at k
      refine ⟨by rw [← hn]; exact rdpak_ok _, c4, ?_⟩
      have e3 : (untieL p).1 = encP n := (congrArg (·.1) k).trans (List.append_assoc (numL 4) (rowN _) _).symm
      rw [← e3]
      exact hp
    · rw [if_neg hc] at h
      have := congrArg (·.2) h
      exact absurd this (by show ¬ ((4 : Int) = 0); decide)
  · rw [readpak_err h0] at h
    exact (h0 (congrArg (·.2) h)).elim
theorem readpak_cases {p : List UInt8} (h0 : (untieL p).2 = 0) : (∃ n, readpakL p = (n, 0)) ∨ readpakL p = (pakZ, 4) := by
  unfold readpakL
  rw [if_neg (by simpa using h0)]
  split
  · exact .inl ⟨_, rfl⟩
  · exact .inr rfl
theorem rowpak_enc {n : PakD} (h : n.Ok) (hf : formP n = true) : rowL (tieL (encP n)) 7 true = (n.nums, n.data, 0) := by
  have hu := untieL_tie (encP n) (by have := encP_len h hf; omega)
  obtain ⟨f0, f1⟩ := formP_small hf
  unfold rowL rowR
  rw [hu]
  obtain ⟨a1, a2⟩ := rowT_read n.nums n.data (PakD.small h) (by omega)
  have hlen : n.nums.length = 7 := rfl
  rw [hlen] at a1
  unfold encP
  dsimp only
  rw [if_neg (by simp), a1]
  dsimp only
  simp only [if_true, a2]
theorem docP_nums {n : PakD} (h : n.Ok) (hf : formP n = true) : docP n.nums n.data = n := by
  obtain ⟨f0, f1⟩ := formP_small hf
  have o_node := Nat.mod_eq_of_lt h.node
  have o_epoch := Nat.mod_eq_of_lt h.epoch
  have o_life := Nat.mod_eq_of_lt h.life
  have o_seq := Nat.mod_eq_of_lt h.seq
  have o_ack := Nat.mod_eq_of_lt h.ack
  have o_plain : (((if n.plain then 1 else 0 : Nat) : Int) == 1) = n.plain := by cases n.plain <;> rfl
  show PakD.mk (n.node % 256) (n.epoch % 4294967296) (n.life % 4294967296) (n.seq % 4294967296) (n.ack % 4294967296) (((if n.plain then 1 else 0 : Nat) : Int) == 1) n.data = n
  rw [o_node, o_epoch, o_life, o_seq, o_ack, o_plain]
theorem refreadpak_enc {n : PakD} (h : n.Ok) (hf : formP n = true) : refreadpakL (tieL (encP n)) = (n, 0) := by
  have hL : pakL n = (tieL (encP n), 0) := by unfold pakL; rw [if_pos hf]
  unfold refreadpakL
  rw [rowpak_enc h hf]
  dsimp only
  rw [docP_nums h hf, hL, if_neg (by simp), if_pos ⟨rfl, rfl⟩]
theorem readpak_ref (p : List UInt8) : readpakL p = refreadpakL p := by
  by_cases h0 : (untieL p).2 = 0
  · by_cases hg : ∃ n : PakD, n.Ok ∧ formP n = true ∧ p = tieL (encP n)
    · obtain ⟨n, ho, hf, rfl⟩ := hg
      rw [readpak_enc ho hf, refreadpak_enc ho hf]
    · rcases readpak_cases h0 with ⟨n, h⟩ | h
      · exact (hg ⟨n, readpak_canon h⟩).elim
      · rw [h]
        unfold refreadpakL
        by_cases h1 : (rowL p 7 true).2.2 ≠ 0
        · rw [if_pos h1]
          have h4 : (rowL p 7 true).2.2 = 4 := by
            unfold rowL rowR at h1 ⊢
            rw [if_neg (by simpa using h0)] at h1 ⊢
            generalize (if true = true then _ else _ : List UInt8 × St) = z at h1 ⊢
            by_cases hz : z.2 = ([], false)
            · rw [if_pos hz] at h1; exact (h1 rfl).elim
            · rw [if_neg hz]
          rw [h4]
        · rw [if_neg h1]
          by_cases hc : (pakL (docP (rowL p 7 true).1 (rowL p 7 true).2.1)).2 = 0 ∧ p = (pakL (docP (rowL p 7 true).1 (rowL p 7 true).2.1)).1
          · obtain ⟨c1, c2⟩ := hc
            have hsm : Small (rowL p 7 true).1 := (rowL_ok (l := (rowL p 7 true).1) (b := (rowL p 7 true).2.1) (by rw [← Decidable.not_not.1 h1])).2.1
            have ho := docP_ok (rowL p 7 true).1 (rowL p 7 true).2.1 hsm
            rcases pakL_code (docP (rowL p 7 true).1 (rowL p 7 true).2.1) with ⟨f, z⟩ | ⟨f, z⟩
            · rw [z] at c2
              exact (hg ⟨_, ho, f, c2⟩).elim
            · rw [z] at c1
              exact absurd c1 (by decide)
          · rw [if_neg hc]
  · rw [readpak_err h0]
    unfold refreadpakL
    have : rowL p 7 true = ([], [], (untieL p).2) := by unfold rowL; rw [if_pos h0]
    rw [this]
    dsimp only
    rw [if_pos h0]

end Go.Proofs.YtmmcmldcbdaooaaDoor
