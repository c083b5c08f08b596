/- The walks of layer 4: notes, requests, replies and packets as bytes. -/
import Derived.Test.YtmmcmldcbdaooaaDoorNoteD
namespace Go.Proofs.YtmmcmldcbdaooaaDoor
open Go.RowKit Go.Quad _root_.Quad _root_.Quad.Ink

theorem len_add {l x : List UInt8} {a b : Nat} (h : l.length ≤ a) (hx : x.length ≤ b) : (l ++ x).length ≤ a + b := by rw [List.length_append]; omega
theorem cellAt {w0 w : World} {g gb : Nat} {l : List UInt8} {cs : List Value} {t : TypeId} (h : PenB w0 g l w) (hB : Blk w0 gb cs t) (i : Nat) {v : Value} (hv : cs[i]? = some v) : w.cell? ⟨gb, i, none⟩ = some v := (hB.belowAt h.bel hB.lt).get i hv

def noteX (n : NoteD) : List UInt8 := rowN [n.kind, n.node, n.epoch, n.life, n.tick, n.gen, n.job, n.ver, n.rank] ++ numL n.credit.toNat ++ numL n.frm ++ numL n.til ++ (numL n.blob.length ++ n.blob)

set_option maxRecDepth 100000 in
set_option maxHeartbeats 2000000 in
theorem note1_calls {w0 w : World} {g gb : Nat} {l : List UInt8} (n : NoteD) (a : Option Addr) (c : Nat) (h : PenB w0 g l w) (hB : Blk w0 gb (noteV n (.slice a n.blob.length c)) 25) (hbs : BS w0 a c n.blob) (hok : n.Ok) (hf : formN n = true) (hl : l.length ≤ 1000) :
    Calls Tryd.prog 34 #[.pointer (some ⟨g, 0, none⟩), .pointer (some ⟨gb, 0, none⟩)] w (PenEnd w0 g (l ++ noteX n)) := by
  unfold noteX
  have hsm := formN_small hf
  have o_kind := hok.kind
  have o_node := hok.node
  have o_epoch := hok.epoch
  have o_life := hok.life
  have o_tick := hok.tick
  have o_gen := hok.gen
  have o_job := hok.job
  have o_ver := hok.ver
  have o_rank := hok.rank
  have o_credit := hok.credit
  have o_frm := hok.frm
  have o_til := hok.til
  clear hf hok
  obtain ⟨kind, node, epoch, life, tick, gen, job, ver, rank, credit, frm, til, blob⟩ := n
  dsimp only at o_kind o_node o_epoch o_life o_tick o_gen o_job o_ver o_rank o_credit o_frm o_til hsm hB hbs ⊢
  have HB := hid hB
  have P0 := hid h
  obtain ⟨bl, hbl⟩ : ∃ bl, blob.length = bl := ⟨_, rfl⟩
  have hbl2 : bl ≤ 2000 := by omega
  have Hbs := hid hbs
  have Hbl := hid hbl
  clear hbs hbl
  have HL0 := hid hl
  clear h hB hl
  go_enter Tryd.func34, Tryd.ntmps34
  have c0 := cellAt P0.out HB.out 0 rfl
  have c1 := cellAt P0.out HB.out 1 rfl
  have c2 := cellAt P0.out HB.out 2 rfl
  have c3 := cellAt P0.out HB.out 3 rfl
  have c4 := cellAt P0.out HB.out 4 rfl
  have c5 := cellAt P0.out HB.out 5 rfl
  have c6 := cellAt P0.out HB.out 6 rfl
  have c7 := cellAt P0.out HB.out 7 rfl
  have c8 := cellAt P0.out HB.out 8 rfl
  go_wp2_with fail
  clear c0
  clear c1
  clear c2
  clear c3
  clear c4
  clear c5
  clear c6
  clear c7
  clear c8
  refine (pn_nums P0.out [kind, node, epoch, life, tick, gen, job, ver, rank] 9 rfl _ rfl (by intro x hx; simp only [List.mem_cons, List.not_mem_nil, or_false] at hx; omega) (by have := HL0.out; simp only [List.length_cons, List.length_nil]; omega)).mono ?_
  rintro e w1 ⟨rfl, h⟩
  have P1 := hid h
  clear h
  have HL1 := hid (len_add HL0.out (rowN_len [kind, node, epoch, life, tick, gen, job, ver, rank] (by intro x hx; simp only [List.mem_cons, List.not_mem_nil, or_false] at hx; omega)))
  have c9 := cellAt P1.out HB.out 9 rfl
  go_wp2_with fail
  clear c9
  refine (pn_int P1.out credit (by omega) (by have := HL1.out; (try simp only [List.length_cons, List.length_nil] at this); omega)).mono ?_
  rintro e w2 ⟨rfl, h⟩
  have P2 := hid h
  clear h
  have HL2 := hid (len_add HL1.out (numL_len10 (n := (credit).toNat) (by omega)))
  have c10 := cellAt P2.out HB.out 10 rfl
  go_wp2_with fail
  clear c10
  refine (pn_num P2.out frm (by omega) (by have := HL2.out; (try simp only [List.length_cons, List.length_nil] at this); omega)).mono ?_
  rintro e w3 ⟨rfl, h⟩
  have P3 := hid h
  clear h
  have HL3 := hid (len_add HL2.out (numL_len10 (n := frm) (by omega)))
  have c11 := cellAt P3.out HB.out 11 rfl
  go_wp2_with fail
  clear c11
  refine (pn_num P3.out til (by omega) (by have := HL3.out; (try simp only [List.length_cons, List.length_nil] at this); omega)).mono ?_
  rintro e w4 ⟨rfl, h⟩
  have P4 := hid h
  clear h
  have HL4 := hid (len_add HL3.out (numL_len10 (n := til) (by omega)))
  have c12 := cellAt P4.out HB.out 12 rfl
  rw [Hbl.out] at c12
  go_wp2_with fail
  clear c12
  refine (pn_text P4.out a c bl blob Hbs.out Hbl.out (by rw [Hbl.out]; omega) (by have := HL4.out; (try simp only [List.length_cons, List.length_nil] at this); omega)).mono ?_
  rintro e w5 ⟨rfl, h⟩
  have P5 := hid h
  clear h
  (try go_wp2_with fail)
  go_end0
  exact ⟨rfl, by have := P5.out; simpa only [List.append_assoc, Bool.false_eq_true, if_false, if_true] using this⟩

def reqX (n : ReqD) : List UInt8 := rowN [n.client, n.seq, n.kind, n.tier] ++ numL n.k.toNat ++ numL n.w.toNat ++ numL n.job

set_option maxRecDepth 100000 in
set_option maxHeartbeats 2000000 in
theorem req1_calls {w0 w : World} {g gb : Nat} {l : List UInt8} (n : ReqD) (h : PenB w0 g l w) (hB : Blk w0 gb (reqV n) 43) (hok : n.Ok) (hf : formQ n = true) (hl : l.length ≤ 1000) :
    Calls Tryd.prog 53 #[.pointer (some ⟨g, 0, none⟩), .pointer (some ⟨gb, 0, none⟩)] w (PenEnd w0 g (l ++ reqX n)) := by
  unfold reqX
  have hsm := formQ_small hf
  have o_client := hok.client
  have o_seq := hok.seq
  have o_kind := hok.kind
  have o_tier := hok.tier
  have o_k := hok.k
  have o_w := hok.w
  have o_job := hok.job
  clear hf hok
  obtain ⟨client, seq, kind, tier, kk, wt, job⟩ := n
  dsimp only at o_client o_seq o_kind o_tier o_k o_w o_job hsm hB ⊢
  have HB := hid hB
  have P0 := hid h
  have HL0 := hid hl
  clear h hB hl
  go_enter Tryd.func53, Tryd.ntmps53
  have c0 := cellAt P0.out HB.out 0 rfl
  have c1 := cellAt P0.out HB.out 1 rfl
  have c2 := cellAt P0.out HB.out 2 rfl
  have c3 := cellAt P0.out HB.out 3 rfl
  go_wp2_with fail
  clear c0
  clear c1
  clear c2
  clear c3
  refine (pn_nums P0.out [client, seq, kind, tier] 4 rfl _ rfl (by intro x hx; simp only [List.mem_cons, List.not_mem_nil, or_false] at hx; omega) (by have := HL0.out; simp only [List.length_cons, List.length_nil]; omega)).mono ?_
  rintro e w1 ⟨rfl, h⟩
  have P1 := hid h
  clear h
  have HL1 := hid (len_add HL0.out (rowN_len [client, seq, kind, tier] (by intro x hx; simp only [List.mem_cons, List.not_mem_nil, or_false] at hx; omega)))
  have c4 := cellAt P1.out HB.out 4 rfl
  go_wp2_with fail
  clear c4
  refine (pn_int P1.out kk (by omega) (by have := HL1.out; (try simp only [List.length_cons, List.length_nil] at this); omega)).mono ?_
  rintro e w2 ⟨rfl, h⟩
  have P2 := hid h
  clear h
  have HL2 := hid (len_add HL1.out (numL_len10 (n := (kk).toNat) (by omega)))
  have c5 := cellAt P2.out HB.out 5 rfl
  go_wp2_with fail
  clear c5
  refine (pn_int P2.out wt (by omega) (by have := HL2.out; (try simp only [List.length_cons, List.length_nil] at this); omega)).mono ?_
  rintro e w3 ⟨rfl, h⟩
  have P3 := hid h
  clear h
  have HL3 := hid (len_add HL2.out (numL_len10 (n := (wt).toNat) (by omega)))
  have c6 := cellAt P3.out HB.out 6 rfl
  go_wp2_with fail
  clear c6
  refine (pn_num P3.out job (by omega) (by have := HL3.out; (try simp only [List.length_cons, List.length_nil] at this); omega)).mono ?_
  rintro e w4 ⟨rfl, h⟩
  have P4 := hid h
  clear h
  (try go_wp2_with fail)
  go_end0
  exact ⟨rfl, by have := P4.out; simpa only [List.append_assoc, Bool.false_eq_true, if_false, if_true] using this⟩

def repX (n : RepD) : List UInt8 := numL n.client ++ numL n.seq ++ numL n.e.toNat ++ numL n.job ++ numL n.state ++ numL n.credit.toNat

set_option maxRecDepth 100000 in
set_option maxHeartbeats 2000000 in
theorem rep1_calls {w0 w : World} {g gb : Nat} {l : List UInt8} (n : RepD) (h : PenB w0 g l w) (hB : Blk w0 gb (repV n) 45) (hok : n.Ok) (hf : formR n = true) (hl : l.length ≤ 1000) :
    Calls Tryd.prog 56 #[.pointer (some ⟨g, 0, none⟩), .pointer (some ⟨gb, 0, none⟩)] w (PenEnd w0 g (l ++ repX n)) := by
  unfold repX
  have hsm := formR_small hf
  have o_client := hok.client
  have o_seq := hok.seq
  have o_e := hok.e
  have o_job := hok.job
  have o_state := hok.state
  have o_credit := hok.credit
  clear hf hok
  obtain ⟨client, seq, ee, job, state, credit⟩ := n
  dsimp only at o_client o_seq o_e o_job o_state o_credit hsm hB ⊢
  have HB := hid hB
  have P0 := hid h
  have HL0 := hid hl
  clear h hB hl
  go_enter Tryd.func56, Tryd.ntmps56
  have c0 := cellAt P0.out HB.out 0 rfl
  go_wp2_with fail
  clear c0
  refine (pn_num P0.out client (by omega) (by have := HL0.out; (try simp only [List.length_cons, List.length_nil] at this); omega)).mono ?_
  rintro e w1 ⟨rfl, h⟩
  have P1 := hid h
  clear h
  have HL1 := hid (len_add HL0.out (numL_len10 (n := client) (by omega)))
  have c1 := cellAt P1.out HB.out 1 rfl
  go_wp2_with fail
  clear c1
  refine (pn_num P1.out seq (by omega) (by have := HL1.out; (try simp only [List.length_cons, List.length_nil] at this); omega)).mono ?_
  rintro e w2 ⟨rfl, h⟩
  have P2 := hid h
  clear h
  have HL2 := hid (len_add HL1.out (numL_len10 (n := seq) (by omega)))
  have c2 := cellAt P2.out HB.out 2 rfl
  go_wp2_with fail
  clear c2
  refine (pn_int P2.out ee (by omega) (by have := HL2.out; (try simp only [List.length_cons, List.length_nil] at this); omega)).mono ?_
  rintro e w3 ⟨rfl, h⟩
  have P3 := hid h
  clear h
  have HL3 := hid (len_add HL2.out (numL_len10 (n := (ee).toNat) (by omega)))
  have c3 := cellAt P3.out HB.out 3 rfl
  go_wp2_with fail
  clear c3
  refine (pn_num P3.out job (by omega) (by have := HL3.out; (try simp only [List.length_cons, List.length_nil] at this); omega)).mono ?_
  rintro e w4 ⟨rfl, h⟩
  have P4 := hid h
  clear h
  have HL4 := hid (len_add HL3.out (numL_len10 (n := job) (by omega)))
  have c4 := cellAt P4.out HB.out 4 rfl
  go_wp2_with fail
  clear c4
  refine (pn_num P4.out state (by omega) (by have := HL4.out; (try simp only [List.length_cons, List.length_nil] at this); omega)).mono ?_
  rintro e w5 ⟨rfl, h⟩
  have P5 := hid h
  clear h
  have HL5 := hid (len_add HL4.out (numL_len10 (n := state) (by omega)))
  have c5 := cellAt P5.out HB.out 5 rfl
  go_wp2_with fail
  clear c5
  refine (pn_int P5.out credit (by omega) (by have := HL5.out; (try simp only [List.length_cons, List.length_nil] at this); omega)).mono ?_
  rintro e w6 ⟨rfl, h⟩
  have P6 := hid h
  clear h
  (try go_wp2_with fail)
  go_end0
  exact ⟨rfl, by have := P6.out; simpa only [List.append_assoc, Bool.false_eq_true, if_false, if_true] using this⟩

def pakX (n : PakD) : List UInt8 := rowN [n.node, n.epoch, n.life, n.seq, n.ack] ++ numL (if n.plain then 1 else 0) ++ (numL n.data.length ++ n.data)

set_option maxRecDepth 100000 in
set_option maxHeartbeats 2000000 in
theorem pak1_calls {w0 w : World} {g gb : Nat} {l : List UInt8} (n : PakD) (a : Option Addr) (c : Nat) (h : PenB w0 g l w) (hB : Blk w0 gb (pakV n (.slice a n.data.length c)) 27) (hbs : BS w0 a c n.data) (hok : n.Ok) (hf : formP n = true) (hl : l.length ≤ 1000) :
    Calls Tryd.prog 40 #[.pointer (some ⟨g, 0, none⟩), .pointer (some ⟨gb, 0, none⟩)] w (PenEnd w0 g (l ++ pakX n)) := by
  unfold pakX
  have hsm := formP_small hf
  have o_node := hok.node
  have o_epoch := hok.epoch
  have o_life := hok.life
  have o_seq := hok.seq
  have o_ack := hok.ack
  clear hf hok
  obtain ⟨node, epoch, life, seq, ack, plain, data⟩ := n
  dsimp only at o_node o_epoch o_life o_seq o_ack hsm hB hbs ⊢
  have HB := hid hB
  have P0 := hid h
  obtain ⟨bl, hbl⟩ : ∃ bl, data.length = bl := ⟨_, rfl⟩
  have hbl2 : bl ≤ 2000 := by omega
  have Hbs := hid hbs
  have Hbl := hid hbl
  clear hbs hbl
  have HL0 := hid hl
  clear h hB hl
  go_enter Tryd.func40, Tryd.ntmps40
  cases plain
  case' false =>
    have c0 := cellAt P0.out HB.out 0 rfl
    have c1 := cellAt P0.out HB.out 1 rfl
    have c2 := cellAt P0.out HB.out 2 rfl
    have c3 := cellAt P0.out HB.out 3 rfl
    have c4 := cellAt P0.out HB.out 4 rfl
    go_wp2_with fail
    clear c0
    clear c1
    clear c2
    clear c3
    clear c4
    refine (pn_nums P0.out [node, epoch, life, seq, ack] 5 rfl _ rfl (by intro x hx; simp only [List.mem_cons, List.not_mem_nil, or_false] at hx; omega) (by have := HL0.out; simp only [List.length_cons, List.length_nil]; omega)).mono ?_
    rintro e w1 ⟨rfl, h⟩
    have P1 := hid h
    clear h
    have HL1 := hid (len_add HL0.out (rowN_len [node, epoch, life, seq, ack] (by intro x hx; simp only [List.mem_cons, List.not_mem_nil, or_false] at hx; omega)))
    have c5 := cellAt P1.out HB.out 5 rfl
    go_wp2_with fail
    clear c5
    refine (pn_bool P1.out false (by have := HL1.out; (try simp only [List.length_cons, List.length_nil] at this); omega)).mono ?_
    rintro e w2 ⟨rfl, h⟩
    have P2 := hid h
    clear h
    have HL2 := hid (len_add HL1.out (numL_len10 (n := if false then 1 else 0) (by split <;> omega)))
    have c6 := cellAt P2.out HB.out 6 rfl
    rw [Hbl.out] at c6
    go_wp2_with fail
    clear c6
    refine (pn_text P2.out a c bl data Hbs.out Hbl.out (by rw [Hbl.out]; omega) (by have := HL2.out; (try simp only [List.length_cons, List.length_nil] at this); omega)).mono ?_
    rintro e w3 ⟨rfl, h⟩
    have P3 := hid h
    clear h
    (try go_wp2_with fail)
    go_end0
    exact ⟨rfl, by have := P3.out; simpa only [List.append_assoc, Bool.false_eq_true, if_false, if_true] using this⟩
  case' true =>
    have c0 := cellAt P0.out HB.out 0 rfl
    have c1 := cellAt P0.out HB.out 1 rfl
    have c2 := cellAt P0.out HB.out 2 rfl
    have c3 := cellAt P0.out HB.out 3 rfl
    have c4 := cellAt P0.out HB.out 4 rfl
    go_wp2_with fail
    clear c0
    clear c1
    clear c2
    clear c3
    clear c4
    refine (pn_nums P0.out [node, epoch, life, seq, ack] 5 rfl _ rfl (by intro x hx; simp only [List.mem_cons, List.not_mem_nil, or_false] at hx; omega) (by have := HL0.out; simp only [List.length_cons, List.length_nil]; omega)).mono ?_
    rintro e w1 ⟨rfl, h⟩
    have P1 := hid h
    clear h
    have HL1 := hid (len_add HL0.out (rowN_len [node, epoch, life, seq, ack] (by intro x hx; simp only [List.mem_cons, List.not_mem_nil, or_false] at hx; omega)))
    have c5 := cellAt P1.out HB.out 5 rfl
    go_wp2_with fail
    clear c5
    refine (pn_bool P1.out true (by have := HL1.out; (try simp only [List.length_cons, List.length_nil] at this); omega)).mono ?_
    rintro e w2 ⟨rfl, h⟩
    have P2 := hid h
    clear h
    have HL2 := hid (len_add HL1.out (numL_len10 (n := if true then 1 else 0) (by split <;> omega)))
    have c6 := cellAt P2.out HB.out 6 rfl
    rw [Hbl.out] at c6
    go_wp2_with fail
    clear c6
    refine (pn_text P2.out a c bl data Hbs.out Hbl.out (by rw [Hbl.out]; omega) (by have := HL2.out; (try simp only [List.length_cons, List.length_nil] at this); omega)).mono ?_
    rintro e w3 ⟨rfl, h⟩
    have P3 := hid h
    clear h
    (try go_wp2_with fail)
    go_end0
    exact ⟨rfl, by have := P3.out; simpa only [List.append_assoc, Bool.false_eq_true, if_false, if_true] using this⟩

theorem encN_eq (n : NoteD) : encN n = numL 1 ++ noteX n := by
  unfold encN noteX rowT rowN NoteD.nums
  simp only [List.flatMap_cons, List.flatMap_nil, List.append_nil, List.append_assoc]

set_option maxRecDepth 100000 in
set_option maxHeartbeats 2000000 in
theorem note_calls (n : NoteD) (a : Option Addr) (c : Nat) (w : World) (hok : n.Ok) (hbs : BS w a c n.blob) (hq : Laid w) :
    Calls Tryd.prog 11 #[.agg (noteV n (.slice a n.blob.length c)).toArray] w (RetBE w.heap.size w (noteL n).1 (noteL n).2) := by
  have hn : n.blob.length ≤ 9223372036854775807 := hbs.max'
  have hlen := @encN_len n hok
  have hR := fun w' => rightNote_calls n a c w' hok hn
  have hC := fun w1 w2 g gb (hP : PenB w1 g (numL 1) w2) (hB : Blk w1 gb (noteV n (.slice a n.blob.length c)) 25) (hbs : BS w1 a c n.blob) (hf : formN n = true) => note1_calls n a c hP hB hbs hok hf (by rw [numL_small (by decide)]; simp)
  obtain ⟨bd, hbd⟩ : ∃ bd, encN n = bd := ⟨_, rfl⟩
  have hX : bd = numL 1 ++ noteX n := hbd ▸ encN_eq n
  unfold noteL
  rw [hbd] at hlen ⊢
  rw [hX] at hlen ⊢
  obtain ⟨xd, hxd⟩ : ∃ xd, noteX n = xd := ⟨_, rfl⟩
  simp only [hxd] at hC hlen ⊢
  obtain ⟨fm, hfm⟩ : ∃ fm, formN n = fm := ⟨_, rfl⟩
  simp only [hfm] at hR hC hlen ⊢
  clear hbd hX hxd hfm
  obtain ⟨kind, node, epoch, life, tick, gen, job, ver, rank, credit, frm, til, blob⟩ := n
  dsimp only at hn hbs
  have HR := hid hR
  have HC := hid hC
  have HL := hid hlen
  have Hq := hid hq
  have Hb := hid hbs
  clear hR hC hlen hq hok hbs
  rcases fm with _ | _
  · simp only [Bool.false_eq_true, if_false]
    simp only [noteV]
    go_enter Tryd.func11, Tryd.ntmps11
    go_wp2_with fail
    refine (HR.out _).mono ?_
    rintro e w1 ⟨rfl, hb⟩
    have B1 := hid ((blk_alloc w (noteV ⟨kind, node, epoch, life, tick, gen, job, ver, rank, credit, frm, til, blob⟩ (.slice a blob.length c)) 25).below hb)
    have W1 := hid ((below_alloc w (.cells (noteV ⟨kind, node, epoch, life, tick, gen, job, ver, rank, credit, frm, til, blob⟩ (.slice a blob.length c)).toArray 25)).trans (hb.mono (by simp)))
    clear hb
    go_wp2_with fail
    refine (seal_no_calls 1 _ _).mono ?_
    rintro e w2 ⟨v, rfl, ho, hb2⟩
    have O2 := hid (ho.base W1.out.size)
    have W2 := hid (W1.out.trans (hb2.mono W1.out.size))
    clear ho hb2
    go_wp2_with fail
    go_ret2
    exact ⟨_, rfl, O2.out, W2.out⟩
  · simp only [if_true]
    simp only [noteV]
    go_enter Tryd.func11, Tryd.ntmps11
    go_wp2_with fail
    refine (HR.out _).mono ?_
    rintro e w1 ⟨rfl, hb⟩
    have B1 := hid ((blk_alloc w (noteV ⟨kind, node, epoch, life, tick, gen, job, ver, rank, credit, frm, til, blob⟩ (.slice a blob.length c)) 25).below hb)
    have W1 := hid ((below_alloc w (.cells (noteV ⟨kind, node, epoch, life, tick, gen, job, ver, rank, credit, frm, til, blob⟩ (.slice a blob.length c)).toArray 25)).trans (hb.mono (by simp)))
    clear hb
    go_wp2_with fail
    refine (seal_calls 1 1 rfl 34 _ xd w1 (run_enter Tryd.func34 (by kernel_rfl) rfl) (by decide) (Hq.out.below W1.out Hq.out.1) (by have := HL.out (by simp); rw [numL_small (by decide), List.length_append, List.length_singleton] at this; omega) (fun w2 g hP => HC.out w1 w2 g _ hP B1.out (Hb.out.below W1.out) (by simp))).mono ?_
    rintro e w2 ⟨v, rfl, ho, hb2⟩
    have O2 := hid (ho.base W1.out.size)
    have W2 := hid (W1.out.trans (hb2.mono W1.out.size))
    clear ho hb2
    go_wp2_with fail
    go_ret2
    exact ⟨_, rfl, O2.out, W2.out⟩

theorem encQ_eq (n : ReqD) : encQ n = numL 2 ++ reqX n := by
  unfold encQ reqX rowN ReqD.nums
  simp only [List.flatMap_cons, List.flatMap_nil, List.append_nil, List.append_assoc]

set_option maxRecDepth 100000 in
set_option maxHeartbeats 2000000 in
theorem req_calls (n : ReqD) (w : World) (hok : n.Ok) (hq : Laid w) :
    Calls Tryd.prog 18 #[.agg (reqV n).toArray] w (RetBE w.heap.size w (reqL n).1 (reqL n).2) := by
  have hn : 0 ≤ 9223372036854775807 := by decide
  have hlen := @encQ_len n hok
  have hR := fun w' => rightRequest_calls n w' hok
  have hC := fun w1 w2 g gb (hP : PenB w1 g (numL 2) w2) (hB : Blk w1 gb (reqV n) 43) (hf : formQ n = true) => req1_calls n hP hB hok hf (by rw [numL_small (by decide)]; simp)
  obtain ⟨bd, hbd⟩ : ∃ bd, encQ n = bd := ⟨_, rfl⟩
  have hX : bd = numL 2 ++ reqX n := hbd ▸ encQ_eq n
  unfold reqL
  rw [hbd] at hlen ⊢
  rw [hX] at hlen ⊢
  obtain ⟨xd, hxd⟩ : ∃ xd, reqX n = xd := ⟨_, rfl⟩
  simp only [hxd] at hC hlen ⊢
  obtain ⟨fm, hfm⟩ : ∃ fm, formQ n = fm := ⟨_, rfl⟩
  simp only [hfm] at hR hC hlen ⊢
  clear hbd hX hxd hfm
  obtain ⟨client, seq, kind, tier, kk, wt, job⟩ := n
  
  have HR := hid hR
  have HC := hid hC
  have HL := hid hlen
  have Hq := hid hq
  
  clear hR hC hlen hq hok
  rcases fm with _ | _
  · simp only [Bool.false_eq_true, if_false]
    simp only [reqV]
    go_enter Tryd.func18, Tryd.ntmps18
    go_wp2_with fail
    refine (HR.out _).mono ?_
    rintro e w1 ⟨rfl, hb⟩
    have B1 := hid ((blk_alloc w (reqV ⟨client, seq, kind, tier, kk, wt, job⟩) 43).below hb)
    have W1 := hid ((below_alloc w (.cells (reqV ⟨client, seq, kind, tier, kk, wt, job⟩).toArray 43)).trans (hb.mono (by simp)))
    clear hb
    go_wp2_with fail
    refine (seal_no_calls 2 _ _).mono ?_
    rintro e w2 ⟨v, rfl, ho, hb2⟩
    have O2 := hid (ho.base W1.out.size)
    have W2 := hid (W1.out.trans (hb2.mono W1.out.size))
    clear ho hb2
    go_wp2_with fail
    go_ret2
    exact ⟨_, rfl, O2.out, W2.out⟩
  · simp only [if_true]
    simp only [reqV]
    go_enter Tryd.func18, Tryd.ntmps18
    go_wp2_with fail
    refine (HR.out _).mono ?_
    rintro e w1 ⟨rfl, hb⟩
    have B1 := hid ((blk_alloc w (reqV ⟨client, seq, kind, tier, kk, wt, job⟩) 43).below hb)
    have W1 := hid ((below_alloc w (.cells (reqV ⟨client, seq, kind, tier, kk, wt, job⟩).toArray 43)).trans (hb.mono (by simp)))
    clear hb
    go_wp2_with fail
    refine (seal_calls 2 2 rfl 53 _ xd w1 (run_enter Tryd.func53 (by kernel_rfl) rfl) (by decide) (Hq.out.below W1.out Hq.out.1) (by have := HL.out (by simp); rw [numL_small (by decide), List.length_append, List.length_singleton] at this; omega) (fun w2 g hP => HC.out w1 w2 g _ hP B1.out (by simp))).mono ?_
    rintro e w2 ⟨v, rfl, ho, hb2⟩
    have O2 := hid (ho.base W1.out.size)
    have W2 := hid (W1.out.trans (hb2.mono W1.out.size))
    clear ho hb2
    go_wp2_with fail
    go_ret2
    exact ⟨_, rfl, O2.out, W2.out⟩

theorem encR_eq (n : RepD) : encR n = numL 3 ++ repX n := by
  unfold encR repX rowN RepD.nums
  simp only [List.flatMap_cons, List.flatMap_nil, List.append_nil, List.append_assoc]

set_option maxRecDepth 100000 in
set_option maxHeartbeats 2000000 in
theorem rep_calls (n : RepD) (w : World) (hok : n.Ok) (hq : Laid w) :
    Calls Tryd.prog 20 #[.agg (repV n).toArray] w (RetBE w.heap.size w (repL n).1 (repL n).2) := by
  have hn : 0 ≤ 9223372036854775807 := by decide
  have hlen := @encR_len n hok
  have hR := fun w' => rightReply_calls n w' hok
  have hC := fun w1 w2 g gb (hP : PenB w1 g (numL 3) w2) (hB : Blk w1 gb (repV n) 45) (hf : formR n = true) => rep1_calls n hP hB hok hf (by rw [numL_small (by decide)]; simp)
  obtain ⟨bd, hbd⟩ : ∃ bd, encR n = bd := ⟨_, rfl⟩
  have hX : bd = numL 3 ++ repX n := hbd ▸ encR_eq n
  unfold repL
  rw [hbd] at hlen ⊢
  rw [hX] at hlen ⊢
  obtain ⟨xd, hxd⟩ : ∃ xd, repX n = xd := ⟨_, rfl⟩
  simp only [hxd] at hC hlen ⊢
  obtain ⟨fm, hfm⟩ : ∃ fm, formR n = fm := ⟨_, rfl⟩
  simp only [hfm] at hR hC hlen ⊢
  clear hbd hX hxd hfm
  obtain ⟨client, seq, ee, job, state, credit⟩ := n
  
  have HR := hid hR
  have HC := hid hC
  have HL := hid hlen
  have Hq := hid hq
  
  clear hR hC hlen hq hok
  rcases fm with _ | _
  · simp only [Bool.false_eq_true, if_false]
    simp only [repV]
    go_enter Tryd.func20, Tryd.ntmps20
    go_wp2_with fail
    refine (HR.out _).mono ?_
    rintro e w1 ⟨rfl, hb⟩
    have B1 := hid ((blk_alloc w (repV ⟨client, seq, ee, job, state, credit⟩) 45).below hb)
    have W1 := hid ((below_alloc w (.cells (repV ⟨client, seq, ee, job, state, credit⟩).toArray 45)).trans (hb.mono (by simp)))
    clear hb
    go_wp2_with fail
    refine (seal_no_calls 3 _ _).mono ?_
    rintro e w2 ⟨v, rfl, ho, hb2⟩
    have O2 := hid (ho.base W1.out.size)
    have W2 := hid (W1.out.trans (hb2.mono W1.out.size))
    clear ho hb2
    go_wp2_with fail
    go_ret2
    exact ⟨_, rfl, O2.out, W2.out⟩
  · simp only [if_true]
    simp only [repV]
    go_enter Tryd.func20, Tryd.ntmps20
    go_wp2_with fail
    refine (HR.out _).mono ?_
    rintro e w1 ⟨rfl, hb⟩
    have B1 := hid ((blk_alloc w (repV ⟨client, seq, ee, job, state, credit⟩) 45).below hb)
    have W1 := hid ((below_alloc w (.cells (repV ⟨client, seq, ee, job, state, credit⟩).toArray 45)).trans (hb.mono (by simp)))
    clear hb
    go_wp2_with fail
    refine (seal_calls 3 3 rfl 56 _ xd w1 (run_enter Tryd.func56 (by kernel_rfl) rfl) (by decide) (Hq.out.below W1.out Hq.out.1) (by have := HL.out (by simp); rw [numL_small (by decide), List.length_append, List.length_singleton] at this; omega) (fun w2 g hP => HC.out w1 w2 g _ hP B1.out (by simp))).mono ?_
    rintro e w2 ⟨v, rfl, ho, hb2⟩
    have O2 := hid (ho.base W1.out.size)
    have W2 := hid (W1.out.trans (hb2.mono W1.out.size))
    clear ho hb2
    go_wp2_with fail
    go_ret2
    exact ⟨_, rfl, O2.out, W2.out⟩

theorem encP_eq (n : PakD) : encP n = numL 4 ++ pakX n := by
  unfold encP pakX rowT rowN PakD.nums
  simp only [List.flatMap_cons, List.flatMap_nil, List.append_nil, List.append_assoc]

set_option maxRecDepth 100000 in
set_option maxHeartbeats 2000000 in
theorem pak_calls (n : PakD) (a : Option Addr) (c : Nat) (w : World) (hok : n.Ok) (hbs : BS w a c n.data) (hq : Laid w) :
    Calls Tryd.prog 12 #[.agg (pakV n (.slice a n.data.length c)).toArray] w (RetBE w.heap.size w (pakL n).1 (pakL n).2) := by
  have hn : n.data.length ≤ 9223372036854775807 := hbs.max'
  have hlen := @encP_len n hok
  have hR := fun w' => rightPacket_calls n a c w' hok hn
  have hC := fun w1 w2 g gb (hP : PenB w1 g (numL 4) w2) (hB : Blk w1 gb (pakV n (.slice a n.data.length c)) 27) (hbs : BS w1 a c n.data) (hf : formP n = true) => pak1_calls n a c hP hB hbs hok hf (by rw [numL_small (by decide)]; simp)
  obtain ⟨bd, hbd⟩ : ∃ bd, encP n = bd := ⟨_, rfl⟩
  have hX : bd = numL 4 ++ pakX n := hbd ▸ encP_eq n
  unfold pakL
  rw [hbd] at hlen ⊢
  rw [hX] at hlen ⊢
  obtain ⟨xd, hxd⟩ : ∃ xd, pakX n = xd := ⟨_, rfl⟩
  simp only [hxd] at hC hlen ⊢
  obtain ⟨fm, hfm⟩ : ∃ fm, formP n = fm := ⟨_, rfl⟩
  simp only [hfm] at hR hC hlen ⊢
  clear hbd hX hxd hfm
  obtain ⟨node, epoch, life, seq, ack, plain, data⟩ := n
  dsimp only at hn hbs
  have HR := hid hR
  have HC := hid hC
  have HL := hid hlen
  have Hq := hid hq
  have Hb := hid hbs
  clear hR hC hlen hq hok hbs
  rcases fm with _ | _
  · simp only [Bool.false_eq_true, if_false]
    simp only [pakV]
    go_enter Tryd.func12, Tryd.ntmps12
    go_wp2_with fail
    refine (HR.out _).mono ?_
    rintro e w1 ⟨rfl, hb⟩
    have B1 := hid ((blk_alloc w (pakV ⟨node, epoch, life, seq, ack, plain, data⟩ (.slice a data.length c)) 27).below hb)
    have W1 := hid ((below_alloc w (.cells (pakV ⟨node, epoch, life, seq, ack, plain, data⟩ (.slice a data.length c)).toArray 27)).trans (hb.mono (by simp)))
    clear hb
    go_wp2_with fail
    refine (seal_no_calls 4 _ _).mono ?_
    rintro e w2 ⟨v, rfl, ho, hb2⟩
    have O2 := hid (ho.base W1.out.size)
    have W2 := hid (W1.out.trans (hb2.mono W1.out.size))
    clear ho hb2
    go_wp2_with fail
    go_ret2
    exact ⟨_, rfl, O2.out, W2.out⟩
  · simp only [if_true]
    simp only [pakV]
    go_enter Tryd.func12, Tryd.ntmps12
    go_wp2_with fail
    refine (HR.out _).mono ?_
    rintro e w1 ⟨rfl, hb⟩
    have B1 := hid ((blk_alloc w (pakV ⟨node, epoch, life, seq, ack, plain, data⟩ (.slice a data.length c)) 27).below hb)
    have W1 := hid ((below_alloc w (.cells (pakV ⟨node, epoch, life, seq, ack, plain, data⟩ (.slice a data.length c)).toArray 27)).trans (hb.mono (by simp)))
    clear hb
    go_wp2_with fail
    refine (seal_calls 4 4 rfl 40 _ xd w1 (run_enter Tryd.func40 (by kernel_rfl) rfl) (by decide) (Hq.out.below W1.out Hq.out.1) (by have := HL.out (by simp); rw [numL_small (by decide), List.length_append, List.length_singleton] at this; omega) (fun w2 g hP => HC.out w1 w2 g _ hP B1.out (Hb.out.below W1.out) (by simp))).mono ?_
    rintro e w2 ⟨v, rfl, ho, hb2⟩
    have O2 := hid (ho.base W1.out.size)
    have W2 := hid (W1.out.trans (hb2.mono W1.out.size))
    clear ho hb2
    go_wp2_with fail
    go_ret2
    exact ⟨_, rfl, O2.out, W2.out⟩
end Go.Proofs.YtmmcmldcbdaooaaDoor
