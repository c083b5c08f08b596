/- The walks of layer 4: notes, requests, replies and packets as bytes. -/
import Derived.Test.YtombndhjoaaaiaaDoorNoteD
namespace Go.Proofs.YtombndhjoaaaiaaDoor
open Go.RowKit Go.Quad _root_.Quad _root_.Quad.Ink

theorem len_add {l x : List UInt8} {a b : Nat} (h : l.length ≤ a) (hx : x.length ≤ b) : (l ++ x).length ≤ a + b := by rw [List.length_append]; omega
theorem cellAt {w0 w : World} {g gb : Nat} {l : List UInt8} {cs : List Value} {t : TypeId} (h : PenB w0 g l w) (hB : Blk w0 gb cs t) (i : Nat) {v : Value} (hv : cs[i]? = some v) : w.cell? ⟨gb, i, none⟩ = some v := (hB.belowAt h.bel hB.lt).get i hv

def noteX (n : NoteD) : List UInt8 := rowN [n.kind, n.node, n.epoch, n.life, n.tick, n.gen, n.job, n.ver, n.rank] ++ numL n.credit.toNat ++ numL n.frm ++ numL n.til ++ (numL n.blob.length ++ n.blob)

def reqX (n : ReqD) : List UInt8 := rowN [n.client, n.seq, n.kind, n.tier] ++ numL n.k.toNat ++ numL n.w.toNat ++ numL n.job

set_option maxRecDepth 100000 in
set_option maxHeartbeats 2000000 in
theorem req1_calls {w0 w : World} {g gb : Nat} {l : List UInt8} (n : ReqD) (h : PenB w0 g l w) (hB : Blk w0 gb (reqV n) 34) (hok : n.Ok) (hf : formQ n = true) (hl : l.length ≤ 1000) :
    Calls Tryd.prog 59 #[.pointer (some ⟨g, 0, none⟩), .pointer (some ⟨gb, 0, none⟩)] w (PenEnd w0 g (l ++ reqX n)) := by
  unfold reqX
  have hsm := formQ_small hf
  have o_client := hok.client
  have o_seq := hok.seq
  have o_kind := hok.kind
  have o_tier := hok.tier
  have o_k := hok.k
  have o_w := hok.w
  have o_job := hok.job
  clear hf hok
  obtain ⟨client, seq, kind, tier, kk, wt, job⟩ := n
  dsimp only at o_client o_seq o_kind o_tier o_k o_w o_job hsm hB ⊢
  have HB := hid hB
  have P0 := hid h
  have HL0 := hid hl
  clear h hB hl
  go_enter Tryd.func59, Tryd.ntmps59
  have c0 := cellAt P0.out HB.out 0 rfl
  have c1 := cellAt P0.out HB.out 1 rfl
  have c2 := cellAt P0.out HB.out 2 rfl
  have c3 := cellAt P0.out HB.out 3 rfl
  go_wp2_with fail
  clear c0
  clear c1
  clear c2
  clear c3
  refine (pn_nums P0.out [client, seq, kind, tier] 4 rfl _ rfl (by intro x hx; simp only [List.mem_cons, List.not_mem_nil, or_false] at hx; omega) (by have := HL0.out; simp only [List.length_cons, List.length_nil]; omega)).mono ?_
  rintro e w1 ⟨rfl, h⟩
  have P1 := hid h
  clear h
  have HL1 := hid (len_add HL0.out (rowN_len [client, seq, kind, tier] (by intro x hx; simp only [List.mem_cons, List.not_mem_nil, or_false] at hx; omega)))
  have c4 := cellAt P1.out HB.out 4 rfl
  go_wp2_with fail
  clear c4
  refine (pn_int P1.out kk (by omega) (by have := HL1.out; (try simp only [List.length_cons, List.length_nil] at this); omega)).mono ?_
  rintro e w2 ⟨rfl, h⟩
  have P2 := hid h
  clear h
  have HL2 := hid (len_add HL1.out (numL_len10 (n := (kk).toNat) (by omega)))
  have c5 := cellAt P2.out HB.out 5 rfl
  go_wp2_with fail
  clear c5
  refine (pn_int P2.out wt (by omega) (by have := HL2.out; (try simp only [List.length_cons, List.length_nil] at this); omega)).mono ?_
  rintro e w3 ⟨rfl, h⟩
  have P3 := hid h
  clear h
  have HL3 := hid (len_add HL2.out (numL_len10 (n := (wt).toNat) (by omega)))
  have c6 := cellAt P3.out HB.out 6 rfl
  go_wp2_with fail
  clear c6
  refine (pn_num P3.out job (by omega) (by have := HL3.out; (try simp only [List.length_cons, List.length_nil] at this); omega)).mono ?_
  rintro e w4 ⟨rfl, h⟩
  have P4 := hid h
  clear h
  (try go_wp2_with fail)
  go_end0
  exact ⟨rfl, by have := P4.out; simpa only [List.append_assoc, Bool.false_eq_true, if_false, if_true] using this⟩

def repX (n : RepD) : List UInt8 := numL n.client ++ numL n.seq ++ numL n.e.toNat ++ numL n.job ++ numL n.state ++ numL n.credit.toNat

def pakX (n : PakD) : List UInt8 := rowN [n.node, n.epoch, n.life, n.seq, n.ack] ++ numL (if n.plain then 1 else 0) ++ (numL n.data.length ++ n.data)

theorem encN_eq (n : NoteD) : encN n = numL 1 ++ noteX n := by
  unfold encN noteX rowT rowN NoteD.nums
  simp only [List.flatMap_cons, List.flatMap_nil, List.append_nil, List.append_assoc]

theorem encQ_eq (n : ReqD) : encQ n = numL 2 ++ reqX n := by
  unfold encQ reqX rowN ReqD.nums
  simp only [List.flatMap_cons, List.flatMap_nil, List.append_nil, List.append_assoc]

set_option maxRecDepth 100000 in
set_option maxHeartbeats 2000000 in
theorem req_calls (n : ReqD) (w : World) (hok : n.Ok) (hq : Laid w) :
    Calls Tryd.prog 33 #[.agg (reqV n).toArray] w (RetBE w.heap.size w (reqL n).1 (reqL n).2) := by
  have hn : 0 ≤ 9223372036854775807 := by decide
  have hlen := @encQ_len n hok
  have hR := fun w' => rightRequest_calls n w' hok
  have hC := fun w1 w2 g gb (hP : PenB w1 g (numL 2) w2) (hB : Blk w1 gb (reqV n) 34) (hf : formQ n = true) => req1_calls n hP hB hok hf (by rw [numL_small (by decide)]; simp)
  obtain ⟨bd, hbd⟩ : ∃ bd, encQ n = bd := ⟨_, rfl⟩
  have hX : bd = numL 2 ++ reqX n := hbd ▸ encQ_eq n
  unfold reqL
  rw [hbd] at hlen ⊢
  rw [hX] at hlen ⊢
  obtain ⟨xd, hxd⟩ : ∃ xd, reqX n = xd := ⟨_, rfl⟩
  simp only [hxd] at hC hlen ⊢
  obtain ⟨fm, hfm⟩ : ∃ fm, formQ n = fm := ⟨_, rfl⟩
  simp only [hfm] at hR hC hlen ⊢
  clear hbd hX hxd hfm
  obtain ⟨client, seq, kind, tier, kk, wt, job⟩ := n
  
  have HR := hid hR
  have HC := hid hC
  have HL := hid hlen
  have Hq := hid hq
  
  clear hR hC hlen hq hok
  rcases fm with _ | _
  · simp only [Bool.false_eq_true, if_false]
    simp only [reqV]
    go_enter Tryd.func33, Tryd.ntmps33
    go_wp2_with fail
    refine (HR.out _).mono ?_
    rintro e w1 ⟨rfl, hb⟩
    have B1 := hid ((blk_alloc w (reqV ⟨client, seq, kind, tier, kk, wt, job⟩) 34).below hb)
    have W1 := hid ((below_alloc w (.cells (reqV ⟨client, seq, kind, tier, kk, wt, job⟩).toArray 34)).trans (hb.mono (by simp)))
    clear hb
    go_wp2_with fail
    refine (seal_no_calls 2 _ _).mono ?_
    rintro e w2 ⟨v, rfl, ho, hb2⟩
    have O2 := hid (ho.base W1.out.size)
    have W2 := hid (W1.out.trans (hb2.mono W1.out.size))
    clear ho hb2
    go_wp2_with fail
    go_ret2
    exact ⟨_, rfl, O2.out, W2.out⟩
  · simp only [if_true]
    simp only [reqV]
    go_enter Tryd.func33, Tryd.ntmps33
    go_wp2_with fail
    refine (HR.out _).mono ?_
    rintro e w1 ⟨rfl, hb⟩
    have B1 := hid ((blk_alloc w (reqV ⟨client, seq, kind, tier, kk, wt, job⟩) 34).below hb)
    have W1 := hid ((below_alloc w (.cells (reqV ⟨client, seq, kind, tier, kk, wt, job⟩).toArray 34)).trans (hb.mono (by simp)))
    clear hb
    go_wp2_with fail
    refine (seal_calls 2 2 rfl 59 _ xd w1 (run_enter Tryd.func59 (by kernel_rfl) rfl) (by decide) (Hq.out.below W1.out Hq.out.1) (by have := HL.out (by simp); rw [numL_small (by decide), List.length_append, List.length_singleton] at this; omega) (fun w2 g hP => HC.out w1 w2 g _ hP B1.out (by simp))).mono ?_
    rintro e w2 ⟨v, rfl, ho, hb2⟩
    have O2 := hid (ho.base W1.out.size)
    have W2 := hid (W1.out.trans (hb2.mono W1.out.size))
    clear ho hb2
    go_wp2_with fail
    go_ret2
    exact ⟨_, rfl, O2.out, W2.out⟩

theorem encR_eq (n : RepD) : encR n = numL 3 ++ repX n := by
  unfold encR repX rowN RepD.nums
  simp only [List.flatMap_cons, List.flatMap_nil, List.append_nil, List.append_assoc]

theorem encP_eq (n : PakD) : encP n = numL 4 ++ pakX n := by
  unfold encP pakX rowT rowN PakD.nums
  simp only [List.flatMap_cons, List.flatMap_nil, List.append_nil, List.append_assoc]

end Go.Proofs.YtombndhjoaaaiaaDoor
