/- The walks of layer 4: the document's notes and packets as bytes. -/
import Derived.Test.YtmmcmldcbdaooaaDoorNoteP
import Derived.Test.YtmmcmldcbdaooaaDoorInkA
import Derived.Test.YtmmcmldcbdaooaaDoorNoteE
import Derived.Test.YtmmcmldcbdaooaaDoorKnotC
namespace Go.Proofs.YtmmcmldcbdaooaaDoor
open Go.RowKit Go.Quad _root_.Quad _root_.Quad.Ink

set_option maxRecDepth 100000 in
set_option maxHeartbeats 8000000 in
theorem refnote_calls (n : NoteD) (a : Option Addr) (c : Nat) (w : World) (hok : n.Ok) (hb : BS w a c n.blob) (hm : n.blob.length ≤ 9223372036854775807) :
    Calls Tryd.prog 16 #[.agg (noteV n (.slice a n.blob.length c)).toArray] w (RetBE w.heap.size w (noteL n).1 (noteL n).2) := by
  have hR := fun w' => refForm_calls n a c w' hok hm
  have hlen := @encN_len n hok
  have hsm := @formN_small n
  have hS := @NoteD.small n hok
  unfold noteL
  obtain ⟨fm, hfm⟩ : ∃ fm, formN n = fm := ⟨_, rfl⟩
  rw [hfm] at hR hlen hsm ⊢
  have hX : encN n = (numL 1 ++ rowN [n.kind, n.node, n.epoch, n.life, n.tick, n.gen, n.job, n.ver, n.rank, n.credit.toNat, n.frm, n.til]) ++ (numL n.blob.length ++ n.blob) := rfl
  rw [hX] at hlen ⊢
  have o1 := hok.kind; have o2 := hok.node; have o3 := hok.epoch; have o4 := hok.life; have o5 := hok.tick; have o6 := hok.gen; have o7 := hok.job; have o8 := hok.ver; have o9 := hok.rank; have o11 := hok.frm; have o12 := hok.til
  clear hfm hX hok
  obtain ⟨kind, node, epoch, life, tick, gen, job, ver, rank, credit, frm, til, blob⟩ := n
  dsimp only at hlen hsm hb hm o1 o2 o3 o4 o5 o6 o7 o8 o9 o11 o12 ⊢
  have HR := hid hR
  have HS := hid hS
  have HB := hid hb
  have HM := hid hm
  clear hR hS hb hm
  simp only [noteV, NoteD.nums] at HR HS ⊢
  obtain ⟨bl, hbl⟩ : ∃ bl, blob.length = bl := ⟨_, rfl⟩
  rw [hbl] at HR HM hlen hsm ⊢
  have Hbl := hid hbl
  clear hbl
  rcases fm with _ | _
  · simp only [Bool.false_eq_true, if_false]
    clear hlen hsm
    go_enter Tryd.func16, Tryd.ntmps16
    go_wp2_with fail
    refine (HR.out _).mono ?_
    rintro e w1 ⟨rfl, hb⟩
    have W1 := hid ((below_alloc w (.cells ([.int .u8 (kind : Int), .int .u8 (node : Int), .int .u32 (epoch : Int), .int .u32 (life : Int), .int .u32 (tick : Int), .int .u32 (gen : Int), .int .u32 (job : Int), .int .u32 (ver : Int), .int .u8 (rank : Int), .int .i64 credit, .int .u32 (frm : Int), .int .u32 (til : Int), .slice a bl c]).toArray 25)).trans (hb.mono (by simp)))
    clear hb
    go_wp2_with fail
    go_ret2
    exact ⟨_, rfl, World.ownsRow_nil _ _ _ _, W1.out⟩
  · simp only [if_true]
    have hsm := hsm rfl
    have hlen := hlen rfl
    obtain ⟨cr, rfl⟩ : ∃ cr : Nat, credit = (cr : Int) := ⟨credit.toNat, by omega⟩
    simp only [Int.toNat_natCast] at hlen ⊢
    have HS' := hid (show Small [kind, node, epoch, life, tick, gen, job, ver, rank, cr, frm, til] from fun x hx => HS.out (by omega) x (by simp only [Int.toNat_natCast]; exact List.mem_cons_of_mem _ hx))
    have HL := hid hlen
    have q1 : (cr : Int) ≤ 10000 := by omega
    have q2 : bl ≤ 1024 := by omega
    clear hsm hlen HS
    obtain ⟨X, hX⟩ : ∃ X, numL 1 ++ rowN [kind, node, epoch, life, tick, gen, job, ver, rank, cr, frm, til] = X := ⟨_, rfl⟩
    obtain ⟨Y, hY⟩ : ∃ Y, numL bl ++ blob = Y := ⟨_, rfl⟩
    rw [hX, hY] at HL ⊢
    have HX := hid hX
    have HY := hid hY
    clear hX hY
    go_enter Tryd.func16, Tryd.ntmps16
    go_wp2_with fail
    refine (HR.out _).mono ?_
    rintro e w1 ⟨rfl, hb⟩
    have B1 := (blk_alloc w [.int .u8 (kind : Int), .int .u8 (node : Int), .int .u32 (epoch : Int), .int .u32 (life : Int), .int .u32 (tick : Int), .int .u32 (gen : Int), .int .u32 (job : Int), .int .u32 (ver : Int), .int .u8 (rank : Int), .int .i64 (cr : Int), .int .u32 (frm : Int), .int .u32 (til : Int), .slice a bl c] 25).below hb
    have W1 := hid ((below_alloc w (.cells ([.int .u8 (kind : Int), .int .u8 (node : Int), .int .u32 (epoch : Int), .int .u32 (life : Int), .int .u32 (tick : Int), .int .u32 (gen : Int), .int .u32 (job : Int), .int .u32 (ver : Int), .int .u8 (rank : Int), .int .i64 (cr : Int), .int .u32 (frm : Int), .int .u32 (til : Int), .slice a bl c]).toArray 25)).trans (hb.mono (by simp)))
    clear hb
    have c0 := B1.get 0 rfl
    have c1 := B1.get 1 rfl
    have c2 := B1.get 2 rfl
    have c3 := B1.get 3 rfl
    have c4 := B1.get 4 rfl
    have c5 := B1.get 5 rfl
    have c6 := B1.get 6 rfl
    have c7 := B1.get 7 rfl
    have c8 := B1.get 8 rfl
    have c9 := B1.get 9 rfl
    have c10 := B1.get 10 rfl
    have c11 := B1.get 11 rfl
    have c12 := B1.get 12 rfl
    have BB := hid B1
    clear B1
    go_wp2_with fail
    clear c0 c1 c2 c3 c4 c5 c6 c7 c8 c9 c10 c11 c12
    have hb2 := below_alloc w1 (.cells ([kind, node, epoch, life, tick, gen, job, ver, rank, cr, frm, til].map u64v).toArray 74)
    refine (refnums_calls _ 1 1 rfl _ 12 12 [kind, node, epoch, life, tick, gen, job, ver, rank, cr, frm, til] rfl (by decide) (by simp) HS'.out (cs_lit w1 ([kind, node, epoch, life, tick, gen, job, ver, rank, cr, frm, til].map u64v) 74 12 1 rfl (by decide))).mono ?_
    rintro e w2 ⟨v, rfl, ho, hb⟩
    rw [HX.out] at ho
    obtain ⟨a2, n2, c2, rfl, hn2, hs2, _⟩ := ob_n ho
    have S2 := hid hs2
    have N2 := hid hn2
    have O2 := hid ho
    replace BB := hid ((BB.out.below hb2).below hb)
    have W2 := hid (W1.out.trans ((hb2.trans (hb.mono hb2.size)).mono W1.out.size))
    have T2 := hid (HB.out.below W2.out)
    clear ho hs2 hn2 hb hb2
    have c12 := BB.out.get 12 rfl
    go_wp2_with fail
    have hC := reftext_calls w2 a c blob T2.out (by rw [Hbl.out]; omega)
    rw [Hbl.out, HY.out] at hC
    refine hC.mono ?_
    rintro e w3 ⟨v, rfl, ho, hb⟩
    obtain ⟨a3, n3, c3, rfl, hn3, hs3, _⟩ := ob_n ho
    have S3 := hid hs3
    have N3 := hid hn3
    replace O2 := hid (O2.out.below hb)
    replace W2 := hid (W2.out.trans (hb.mono W2.out.size))
    clear ho hs3 hn3 hb hC c12
    go_wp2_with (at_builtin; refine wpList_append_b (.tmp 46) (.tmp 49) _ rfl rfl w.heap.size 5 info_u8 under_bytes _ X (O2.out.base (by have := W1.out.size; simp; omega)) rfl S3.out (by rw [N3.out]; rfl) (by have := HL.out; rw [List.length_append] at this; omega) W2.out.size ?_; intro v5 w4 hown1 hg1 hb1 _; have O4 := hid hown1; have W4 := hid (W2.out.trans hb1); clear hown1 hg1 hb1)
    obtain ⟨a5, n5, c5, rfl, hn5, hs5, _⟩ := ob_n O4.out
    have hC := reftie_calls a5 c5 (X ++ Y) w4 hs5 (by have := HL.out; omega)
    rw [hn5] at hC
    refine hC.mono ?_
    rintro e w5 ⟨v, rfl, ho, hb⟩
    have O5 := hid (ho.base W4.out.size)
    have W5 := hid (W4.out.trans (hb.mono W4.out.size))
    clear ho hb hC
    go_wp2_with fail
    go_ret2
    exact ⟨_, rfl, O5.out, W5.out⟩

set_option maxRecDepth 100000 in
set_option maxHeartbeats 8000000 in
theorem refpak_calls (n : PakD) (a : Option Addr) (c : Nat) (w : World) (hok : n.Ok) (hb : BS w a c n.data) (hm : n.data.length ≤ 9223372036854775807) :
    Calls Tryd.prog 24 #[.agg (pakV n (.slice a n.data.length c)).toArray] w (RetBE w.heap.size w (pakL n).1 (pakL n).2) := by
  have hlen := @encP_len n hok
  have hS := @PakD.small n hok
  unfold pakL
  have hX : encP n = (numL 4 ++ rowN [n.node, n.epoch, n.life, n.seq, n.ack, if n.plain then 1 else 0]) ++ (numL n.data.length ++ n.data) := rfl
  rw [hX] at hlen ⊢
  have o1 := hok.node; have o2 := hok.epoch; have o3 := hok.life; have o4 := hok.seq; have o5 := hok.ack
  clear hX hok
  have hform : formP n = (decide (n.node < 16) && decide (n.data.length ≤ 1984) && (!n.plain || n.seq == 0)) := rfl
  rw [hform] at hlen ⊢
  clear hform
  obtain ⟨node, epoch, life, seq, ack, plain, data⟩ := n
  dsimp only at hlen hb hm o1 o2 o3 o4 o5 ⊢
  simp only [pakV, PakD.nums] at hS ⊢
  have HB := hid hb
  obtain ⟨dl, hdl⟩ : ∃ dl, data.length = dl := ⟨_, rfl⟩
  rw [hdl] at hlen hm ⊢
  have Hdl := hid hdl
  have b1 : (dl : Int) ≤ 9223372036854775807 := by omega
  have b2 : (node : Int) ≤ 255 := by omega
  clear hdl hb hm
  by_cases t0 : node < 16
  case' neg =>
    rw [show (decide (node < 16) && decide (dl ≤ 1984) && (!plain || seq == 0)) = false from by simp [t0]]
    have u0 : decide ((15 : Int) < (node : Int)) = true := by simp; omega
    simp only [Bool.false_eq_true, if_false]
    clear t0 hlen hS
    go_enter Tryd.func24, Tryd.ntmps24
    go_wp2_with fail
    go_ret2
    exact ⟨_, rfl, World.ownsRow_nil _ _ _ _, below_alloc _ _⟩
  have u0 : decide ((15 : Int) < (node : Int)) = false := by simp; omega
  by_cases t1 : dl ≤ 1984
  case' neg =>
    rw [show (decide (node < 16) && decide (dl ≤ 1984) && (!plain || seq == 0)) = false from by simp [t1]]
    have u1 : decide ((1984 : Int) < (dl : Int)) = true := by simp; omega
    simp only [Bool.false_eq_true, if_false]
    clear t1 hlen hS
    go_enter Tryd.func24, Tryd.ntmps24
    go_wp2_with fail
    go_ret2
    exact ⟨_, rfl, World.ownsRow_nil _ _ _ _, below_alloc _ _⟩
  have u1 : decide ((1984 : Int) < (dl : Int)) = false := by simp; omega
  rw [show (decide (node < 16) && decide (dl ≤ 1984) && (!plain || seq == 0)) = (!plain || seq == 0) from by simp [t0, t1]] at hlen ⊢
  have q2 : (dl : Int) ≤ 1984 := by omega
  clear t0 t1
  rcases plain with _ | _
  · rw [show (!false || seq == 0) = true from rfl] at hlen ⊢
    have hlen := hlen rfl
    have HS' := hid (show Small [node, epoch, life, seq, ack, 0] from fun x hx => hS x (List.mem_cons_of_mem _ hx))
    simp only [Bool.false_eq_true, if_false, if_true] at hlen ⊢
    have HL := hid hlen
    clear hlen hS
    obtain ⟨X, hX⟩ : ∃ X, numL 4 ++ rowN [node, epoch, life, seq, ack, 0] = X := ⟨_, rfl⟩
    obtain ⟨Y, hY⟩ : ∃ Y, numL dl ++ data = Y := ⟨_, rfl⟩
    rw [hX, hY] at HL ⊢
    have HX := hid hX
    have HY := hid hY
    clear hX hY
    have B1 := blk_alloc w [.int .u8 (node : Int), .int .u32 (epoch : Int), .int .u32 (life : Int), .int .u32 (seq : Int), .int .u32 (ack : Int), .bool false, .slice a dl c] 27
    have W1 := hid (below_alloc w (.cells ([.int .u8 (node : Int), .int .u32 (epoch : Int), .int .u32 (life : Int), .int .u32 (seq : Int), .int .u32 (ack : Int), .bool false, .slice a dl c]).toArray 27))
    go_enter Tryd.func24, Tryd.ntmps24
    go_upto_region 6 with fail
    generalize (w.alloc (.cells ([.int .u8 (node : Int), .int .u32 (epoch : Int), .int .u32 (life : Int), .int .u32 (seq : Int), .int .u32 (ack : Int), .bool false, .slice a dl c]).toArray 27)) = w1 at B1 W1 ⊢
    have c0 := B1.get 0 rfl
    have c1 := B1.get 1 rfl
    have c2 := B1.get 2 rfl
    have c3 := B1.get 3 rfl
    have c4 := B1.get 4 rfl
    have c5 := B1.get 5 rfl
    have c6 := B1.get 6 rfl
    have BB := hid B1
    clear B1
    go_wp2_with fail
    clear c0 c1 c2 c3 c4 c5 c6
    have hb2 := below_alloc w1 (.cells ([node, epoch, life, seq, ack, 0].map u64v).toArray 74)
    refine (refnums_calls _ 4 4 rfl _ 6 6 [node, epoch, life, seq, ack, 0] rfl (by decide) (by simp) HS'.out (cs_lit w1 ([node, epoch, life, seq, ack, 0].map u64v) 74 6 1 rfl (by decide))).mono ?_
    rintro e w2 ⟨v, rfl, ho, hb⟩
    rw [HX.out] at ho
    obtain ⟨a2, n2, c2, rfl, hn2, hs2, _⟩ := ob_n ho
    have S2 := hid hs2
    have N2 := hid hn2
    have O2 := hid ho
    replace BB := hid ((BB.out.below hb2).below hb)
    have W2 := hid (W1.out.trans ((hb2.trans (hb.mono hb2.size)).mono W1.out.size))
    have T2 := hid (HB.out.below W2.out)
    clear ho hs2 hn2 hb hb2
    have c6 := BB.out.get 6 rfl
    go_wp2_with fail
    have hC := reftext_calls w2 a c data T2.out (by rw [Hdl.out]; omega)
    rw [Hdl.out, HY.out] at hC
    refine hC.mono ?_
    rintro e w3 ⟨v, rfl, ho, hb⟩
    obtain ⟨a3, n3, c3, rfl, hn3, hs3, _⟩ := ob_n ho
    have S3 := hid hs3
    have N3 := hid hn3
    replace O2 := hid (O2.out.below hb)
    replace W2 := hid (W2.out.trans (hb.mono W2.out.size))
    clear ho hs3 hn3 hb hC c6
    go_wp2_with (at_builtin; refine wpList_append_b (.tmp 44) (.tmp 47) _ rfl rfl w.heap.size 5 info_u8 under_bytes _ X (O2.out.base (by have := W1.out.size; simp; omega)) rfl S3.out (by rw [N3.out]; rfl) (by have := HL.out; rw [List.length_append] at this; omega) W2.out.size ?_; intro v5 w4 hown1 hg1 hb1 _; have O4 := hid hown1; have W4 := hid (W2.out.trans hb1); clear hown1 hg1 hb1)
    obtain ⟨a5, n5, c5, rfl, hn5, hs5, _⟩ := ob_n O4.out
    have hC := reftie_calls a5 c5 (X ++ Y) w4 hs5 (by have := HL.out; omega)
    rw [hn5] at hC
    refine hC.mono ?_
    rintro e w5 ⟨v, rfl, ho, hb⟩
    have O5 := hid (ho.base W4.out.size)
    have W5 := hid (W4.out.trans (hb.mono W4.out.size))
    clear ho hb hC
    go_wp2_with fail
    go_ret2
    exact ⟨_, rfl, O5.out, W5.out⟩
  · by_cases t2 : seq = 0
    · subst t2
      rw [show ((0 : Nat) : Int) = 0 from rfl]
      rw [show (!true || (0 : Nat) == 0) = true from rfl] at hlen ⊢
      have hlen := hlen rfl
      have HS' := hid (show Small [node, epoch, life, 0, ack, 1] from fun x hx => hS x (List.mem_cons_of_mem _ hx))
      simp only [Bool.false_eq_true, if_false, if_true] at hlen ⊢
      have HL := hid hlen
      clear hlen hS
      obtain ⟨X, hX⟩ : ∃ X, numL 4 ++ rowN [node, epoch, life, 0, ack, 1] = X := ⟨_, rfl⟩
      obtain ⟨Y, hY⟩ : ∃ Y, numL dl ++ data = Y := ⟨_, rfl⟩
      rw [hX, hY] at HL ⊢
      have HX := hid hX
      have HY := hid hY
      clear hX hY
      have B1 := blk_alloc w [.int .u8 (node : Int), .int .u32 (epoch : Int), .int .u32 (life : Int), .int .u32 0, .int .u32 (ack : Int), .bool true, .slice a dl c] 27
      have W1 := hid (below_alloc w (.cells ([.int .u8 (node : Int), .int .u32 (epoch : Int), .int .u32 (life : Int), .int .u32 0, .int .u32 (ack : Int), .bool true, .slice a dl c]).toArray 27))
      go_enter Tryd.func24, Tryd.ntmps24
      go_upto_region 6 with fail
      generalize (w.alloc (.cells ([.int .u8 (node : Int), .int .u32 (epoch : Int), .int .u32 (life : Int), .int .u32 0, .int .u32 (ack : Int), .bool true, .slice a dl c]).toArray 27)) = w1 at B1 W1 ⊢
      have c0 := B1.get 0 rfl
      have c1 := B1.get 1 rfl
      have c2 := B1.get 2 rfl
      have c3 := B1.get 3 rfl
      have c4 := B1.get 4 rfl
      have c5 := B1.get 5 rfl
      have c6 := B1.get 6 rfl
      have BB := hid B1
      clear B1
      go_wp2_with fail
      clear c0 c1 c2 c3 c4 c5 c6
      have hb2 := below_alloc w1 (.cells ([node, epoch, life, 0, ack, 1].map u64v).toArray 74)
      refine (refnums_calls _ 4 4 rfl _ 6 6 [node, epoch, life, 0, ack, 1] rfl (by decide) (by simp) HS'.out (cs_lit w1 ([node, epoch, life, 0, ack, 1].map u64v) 74 6 1 rfl (by decide))).mono ?_
      rintro e w2 ⟨v, rfl, ho, hb⟩
      rw [HX.out] at ho
      obtain ⟨a2, n2, c2, rfl, hn2, hs2, _⟩ := ob_n ho
      have S2 := hid hs2
      have N2 := hid hn2
      have O2 := hid ho
      replace BB := hid ((BB.out.below hb2).below hb)
      have W2 := hid (W1.out.trans ((hb2.trans (hb.mono hb2.size)).mono W1.out.size))
      have T2 := hid (HB.out.below W2.out)
      clear ho hs2 hn2 hb hb2
      have c6 := BB.out.get 6 rfl
      go_wp2_with fail
      have hC := reftext_calls w2 a c data T2.out (by rw [Hdl.out]; omega)
      rw [Hdl.out, HY.out] at hC
      refine hC.mono ?_
      rintro e w3 ⟨v, rfl, ho, hb⟩
      obtain ⟨a3, n3, c3, rfl, hn3, hs3, _⟩ := ob_n ho
      have S3 := hid hs3
      have N3 := hid hn3
      replace O2 := hid (O2.out.below hb)
      replace W2 := hid (W2.out.trans (hb.mono W2.out.size))
      clear ho hs3 hn3 hb hC c6
      go_wp2_with (at_builtin; refine wpList_append_b (.tmp 44) (.tmp 47) _ rfl rfl w.heap.size 5 info_u8 under_bytes _ X (O2.out.base (by have := W1.out.size; simp; omega)) rfl S3.out (by rw [N3.out]; rfl) (by have := HL.out; rw [List.length_append] at this; omega) W2.out.size ?_; intro v5 w4 hown1 hg1 hb1 _; have O4 := hid hown1; have W4 := hid (W2.out.trans hb1); clear hown1 hg1 hb1)
      obtain ⟨a5, n5, c5, rfl, hn5, hs5, _⟩ := ob_n O4.out
      have hC := reftie_calls a5 c5 (X ++ Y) w4 hs5 (by have := HL.out; omega)
      rw [hn5] at hC
      refine hC.mono ?_
      rintro e w5 ⟨v, rfl, ho, hb⟩
      have O5 := hid (ho.base W4.out.size)
      have W5 := hid (W4.out.trans (hb.mono W4.out.size))
      clear ho hb hC
      go_wp2_with fail
      go_ret2
      exact ⟨_, rfl, O5.out, W5.out⟩
    · rw [show (!true || seq == 0) = false from by simp [t2]]
      have u2 : ((seq : Int) == 0) = false := by simp; omega
      simp only [Bool.false_eq_true, if_false]
      clear t2 hlen hS
      go_enter Tryd.func24, Tryd.ntmps24
      go_wp2_with fail
      go_ret2
      exact ⟨_, rfl, World.ownsRow_nil _ _ _ _, below_alloc _ _⟩
end Go.Proofs.YtmmcmldcbdaooaaDoor
