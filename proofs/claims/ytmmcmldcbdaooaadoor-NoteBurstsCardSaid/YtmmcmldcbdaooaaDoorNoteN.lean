/- The walks of layer 4: the document's requests and replies as bytes. -/
import Derived.Test.YtmmcmldcbdaooaaDoorNoteM
namespace Go.Proofs.YtmmcmldcbdaooaaDoor
open Go.RowKit Go.Quad _root_.Quad _root_.Quad.Ink

set_option maxRecDepth 100000 in
set_option maxHeartbeats 4000000 in
theorem refreq_calls (n : ReqD) (w : World) (hok : n.Ok) : Calls Tryd.prog 19 #[.agg (reqV n).toArray] w (RetBE w.heap.size w (reqL n).1 (reqL n).2) := by
  have hR := fun w' => refFormRequest_calls n w' hok
  have hlen := @encQ_len n hok
  have hsm := @formQ_small n
  have hS := ReqD.small hok
  unfold reqL
  obtain ⟨fm, hfm⟩ : ∃ fm, formQ n = fm := ⟨_, rfl⟩
  rw [hfm] at hR hlen hsm ⊢
  have hX : encQ n = numL 2 ++ rowN [n.client, n.seq, n.kind, n.tier, n.k.toNat, n.w.toNat, n.job] := rfl
  rw [hX] at hlen ⊢
  have o1 := hok.client; have o2 := hok.seq; have o3 := hok.kind; have o4 := hok.tier; have o7 := hok.job
  clear hfm hX hok
  obtain ⟨client, seq, kind, tier, kk, wt, job⟩ := n
  dsimp only at hlen hsm o1 o2 o3 o4 o7 ⊢
  have HR := hid hR
  have HS := hid hS
  clear hR hS
  simp only [reqV]
  rcases fm with _ | _
  · simp only [Bool.false_eq_true, if_false]
    clear hlen hsm
    go_enter Tryd.func19, Tryd.ntmps19
    go_wp2_with fail
    refine (HR.out _).mono ?_
    rintro e w1 ⟨rfl, hb⟩
    have W1 := hid ((below_alloc w (.cells #[.int .u8 (client : Int), .int .u32 (seq : Int), .int .u8 (kind : Int), .int .u8 (tier : Int), .int .i64 kk, .int .i64 wt, .int .u32 (job : Int)] 43)).trans (hb.mono (by simp)))
    clear hb
    go_wp2_with fail
    go_ret2
    exact ⟨_, rfl, World.ownsRow_nil _ _ _ _, W1.out⟩
  · simp only [if_true]
    have hsm := hsm rfl
    have hlen := hlen rfl
    obtain ⟨k1, rfl⟩ : ∃ k1 : Nat, kk = (k1 : Int) := ⟨kk.toNat, by omega⟩
    obtain ⟨k2, rfl⟩ : ∃ k2 : Nat, wt = (k2 : Int) := ⟨wt.toNat, by omega⟩
    simp only [Int.toNat_natCast] at hlen ⊢
    have HS' := hid (show Small [client, seq, kind, tier, k1, k2, job] from fun x hx => HS.out x (by simp only [ReqD.nums, Int.toNat_natCast]; exact List.mem_cons_of_mem _ hx))
    have HL := hid hlen
    have q1 : (k1 : Int) ≤ 2147483647 := by omega
    have q2 : (k2 : Int) ≤ 2147483647 := by omega
    clear hsm hlen HS
    obtain ⟨Y, hY⟩ : ∃ Y, numL 2 ++ rowN [client, seq, kind, tier, k1, k2, job] = Y := ⟨_, rfl⟩
    rw [hY] at HL ⊢
    have HY := hid hY
    clear hY
    go_enter Tryd.func19, Tryd.ntmps19
    go_wp2_with fail
    refine (HR.out _).mono ?_
    rintro e w1 ⟨rfl, hb⟩
    have B1 := (blk_alloc w [.int .u8 (client : Int), .int .u32 (seq : Int), .int .u8 (kind : Int), .int .u8 (tier : Int), .int .i64 (k1 : Int), .int .i64 (k2 : Int), .int .u32 (job : Int)] 43).below hb
    have W1 := hid ((below_alloc w (.cells #[.int .u8 (client : Int), .int .u32 (seq : Int), .int .u8 (kind : Int), .int .u8 (tier : Int), .int .i64 (k1 : Int), .int .i64 (k2 : Int), .int .u32 (job : Int)] 43)).trans (hb.mono (by simp)))
    have c0 := B1.get 0 rfl
    have c1 := B1.get 1 rfl
    have c2 := B1.get 2 rfl
    have c3 := B1.get 3 rfl
    have c4 := B1.get 4 rfl
    have c5 := B1.get 5 rfl
    have c6 := B1.get 6 rfl
    clear hb B1
    go_wp2_with fail
    clear c0 c1 c2 c3 c4 c5 c6
    have hb2 := below_alloc w1 (.cells ([client, seq, kind, tier, k1, k2, job].map u64v).toArray 74)
    refine (refnums_calls _ 2 2 rfl _ 7 7 [client, seq, kind, tier, k1, k2, job] rfl (by decide) (by simp) HS'.out (cs_lit w1 ([client, seq, kind, tier, k1, k2, job].map u64v) 74 7 1 rfl (by decide))).mono ?_
    rintro e w2 ⟨v, rfl, ho, hb⟩
    rw [HY.out] at ho
    obtain ⟨a2, n2, c2, rfl, hn2, hs2, _⟩ := ob_n ho
    have S2 := hid hs2
    have N2 := hid hn2
    have W2 := hid (W1.out.trans ((hb2.trans (hb.mono hb2.size)).mono W1.out.size))
    clear ho hs2 hn2 hb hb2
    go_wp2_with fail
    have hC := reftie_calls a2 c2 Y w2 S2.out (by have := HL.out; omega)
    rw [N2.out] at hC
    refine hC.mono ?_
    rintro e w3 ⟨v, rfl, ho, hb⟩
    have O3 := hid (ho.base W2.out.size)
    have W3 := hid (W2.out.trans (hb.mono W2.out.size))
    clear ho hb hC
    go_wp2_with fail
    go_ret2
    exact ⟨_, rfl, O3.out, W3.out⟩

set_option maxRecDepth 100000 in
set_option maxHeartbeats 8000000 in
theorem refrep_calls (n : RepD) (w : World) (hok : n.Ok) : Calls Tryd.prog 21 #[.agg (repV n).toArray] w (RetBE w.heap.size w (repL n).1 (repL n).2) := by
  have hlen := @encR_len n hok
  have hS := RepD.small hok
  have hcode : (formR n = true ∧ repL n = (tieL (encR n), 0)) ∨ (formR n = false ∧ repL n = ([], 4)) := by unfold repL; cases formR n <;> simp
  have o1 := hok.client; have o2 := hok.seq; have o3 := hok.job; have o4 := hok.state; have o5 := hok.e; have o6 := hok.credit
  clear hok
  obtain ⟨rl, hrl⟩ : ∃ rl, repL n = rl := ⟨_, rfl⟩
  rw [hrl] at hcode ⊢
  clear hrl
  obtain ⟨client, seq, ee, job, state, credit⟩ := n
  dsimp only at o1 o2 o3 o4 o5 o6 ⊢
  have hform : formR ⟨client, seq, ee, job, state, credit⟩ = (decide (client < 8) && decide (0 ≤ ee) && decide (ee ≤ 16) && decide (state ≤ 5) && (decide (0 ≤ credit) && decide (credit ≤ 10000))) := rfl
  rw [hform] at hcode hlen
  have Hcode := hid hcode
  have Hlen := hid hlen
  have HS := hid hS
  clear hform hlen hcode hS
  simp only [repV]
  have b1 : (client : Int) ≤ 255 := by omega
  have b2 : (state : Int) ≤ 255 := by omega
  by_cases hn : client < 8
  case' neg =>
    have Fin := hid (show (decide (client < 8) && decide (0 ≤ ee) && decide (ee ≤ 16) && decide (state ≤ 5) && (decide (0 ≤ credit) && decide (credit ≤ 10000))) = false from by simp [hn])
    have hn' : decide ((7 : Int) < (client : Int)) = true := by simp; omega
    clear hn
    obtain rfl : rl = ([], 4) := by rcases Hcode.out with ⟨h, _⟩ | ⟨_, h⟩; rw [Fin.out] at h; cases h; exact h
    go_enter Tryd.func21, Tryd.ntmps21
    go_wp2_with fail
    go_ret2
    exact ⟨_, rfl, World.ownsRow_nil _ _ _ _, below_alloc _ _⟩
  have hn' : decide ((7 : Int) < (client : Int)) = false := by simp; omega
  by_cases ha : 0 ≤ ee
  case' neg =>
    have Fin := hid (show (decide (client < 8) && decide (0 ≤ ee) && decide (ee ≤ 16) && decide (state ≤ 5) && (decide (0 ≤ credit) && decide (credit ≤ 10000))) = false from by simp [ha])
    have ha' : decide (ee < 0) = true := by simp; omega
    clear ha
    obtain rfl : rl = ([], 4) := by rcases Hcode.out with ⟨h, _⟩ | ⟨_, h⟩; rw [Fin.out] at h; cases h; exact h
    go_enter Tryd.func21, Tryd.ntmps21
    go_wp2_with fail
    go_ret2
    exact ⟨_, rfl, World.ownsRow_nil _ _ _ _, below_alloc _ _⟩
  have ha' : decide (ee < 0) = false := by simp; omega
  by_cases hb : ee ≤ 16
  case' neg =>
    have Fin := hid (show (decide (client < 8) && decide (0 ≤ ee) && decide (ee ≤ 16) && decide (state ≤ 5) && (decide (0 ≤ credit) && decide (credit ≤ 10000))) = false from by simp [hb])
    have hb' : decide ((16 : Int) < ee) = true := by simp; omega
    clear hb
    obtain rfl : rl = ([], 4) := by rcases Hcode.out with ⟨h, _⟩ | ⟨_, h⟩; rw [Fin.out] at h; cases h; exact h
    go_enter Tryd.func21, Tryd.ntmps21
    go_wp2_with fail
    go_ret2
    exact ⟨_, rfl, World.ownsRow_nil _ _ _ _, below_alloc _ _⟩
  have hb' : decide ((16 : Int) < ee) = false := by simp; omega
  by_cases hs : state ≤ 5
  case' neg =>
    have Fin := hid (show (decide (client < 8) && decide (0 ≤ ee) && decide (ee ≤ 16) && decide (state ≤ 5) && (decide (0 ≤ credit) && decide (credit ≤ 10000))) = false from by simp [hs])
    have hs' : decide ((5 : Int) < (state : Int)) = true := by simp; omega
    clear hs
    obtain rfl : rl = ([], 4) := by rcases Hcode.out with ⟨h, _⟩ | ⟨_, h⟩; rw [Fin.out] at h; cases h; exact h
    go_enter Tryd.func21, Tryd.ntmps21
    go_wp2_with fail
    go_ret2
    exact ⟨_, rfl, World.ownsRow_nil _ _ _ _, below_alloc _ _⟩
  have hs' : decide ((5 : Int) < (state : Int)) = false := by simp; omega
  by_cases hc : 0 ≤ credit
  case' neg =>
    have Fin := hid (show (decide (client < 8) && decide (0 ≤ ee) && decide (ee ≤ 16) && decide (state ≤ 5) && (decide (0 ≤ credit) && decide (credit ≤ 10000))) = false from by simp [hc])
    have hc' : decide (credit < 0) = true := by simp; omega
    clear hc
    obtain rfl : rl = ([], 4) := by rcases Hcode.out with ⟨h, _⟩ | ⟨_, h⟩; rw [Fin.out] at h; cases h; exact h
    go_enter Tryd.func21, Tryd.ntmps21
    go_wp2_with fail
    go_ret2
    exact ⟨_, rfl, World.ownsRow_nil _ _ _ _, below_alloc _ _⟩
  have hc' : decide (credit < 0) = false := by simp; omega
  by_cases hd : credit ≤ 10000
  case' neg =>
    have Fin := hid (show (decide (client < 8) && decide (0 ≤ ee) && decide (ee ≤ 16) && decide (state ≤ 5) && (decide (0 ≤ credit) && decide (credit ≤ 10000))) = false from by simp [hd])
    have hd' : decide ((10000 : Int) < credit) = true := by simp; omega
    clear hd
    obtain rfl : rl = ([], 4) := by rcases Hcode.out with ⟨h, _⟩ | ⟨_, h⟩; rw [Fin.out] at h; cases h; exact h
    go_enter Tryd.func21, Tryd.ntmps21
    go_wp2_with fail
    go_ret2
    exact ⟨_, rfl, World.ownsRow_nil _ _ _ _, below_alloc _ _⟩
  have hd' : decide ((10000 : Int) < credit) = false := by simp; omega
  have Fin := hid (show (decide (client < 8) && decide (0 ≤ ee) && decide (ee ≤ 16) && decide (state ≤ 5) && (decide (0 ≤ credit) && decide (credit ≤ 10000))) = true from by simp [hn, ha, hb, hs, hc, hd])
  obtain rfl : rl = (tieL (encR ⟨client, seq, ee, job, state, credit⟩), 0) := by rcases Hcode.out with ⟨_, h⟩ | ⟨h, _⟩; exact h; rw [Fin.out] at h; cases h
  have hlen := Hlen.out Fin.out
  have hX : encR ⟨client, seq, ee, job, state, credit⟩ = numL 3 ++ rowN [client, seq, ee.toNat, job, state, credit.toNat] := rfl
  rw [hX] at hlen ⊢
  clear hX
  obtain ⟨k1, rfl⟩ : ∃ k1 : Nat, ee = (k1 : Int) := ⟨ee.toNat, by omega⟩
  obtain ⟨k2, rfl⟩ : ∃ k2 : Nat, credit = (k2 : Int) := ⟨credit.toNat, by omega⟩
  simp only [Int.toNat_natCast] at hlen ⊢
  have HS' := hid (show Small [client, seq, k1, job, state, k2] from fun x hx => HS.out x (by simp only [RepD.nums, Int.toNat_natCast]; exact List.mem_cons_of_mem _ hx))
  have HL := hid hlen
  clear hlen Hcode Hlen HS Fin
  obtain ⟨Y, hY⟩ : ∃ Y, numL 3 ++ rowN [client, seq, k1, job, state, k2] = Y := ⟨_, rfl⟩
  rw [hY] at HL ⊢
  have HY := hid hY
  clear hY
  go_enter Tryd.func21, Tryd.ntmps21
  go_wp2_with fail
  have hb0 := below_alloc w (.cells #[.int .u8 (client : Int), .int .u32 (seq : Int), .int .i64 (k1 : Int), .int .u32 (job : Int), .int .u8 (state : Int), .int .i64 (k2 : Int)] 45)
  have hz : (w.alloc (.cells #[.int .u8 (client : Int), .int .u32 (seq : Int), .int .i64 (k1 : Int), .int .u32 (job : Int), .int .u8 (state : Int), .int .i64 (k2 : Int)] 45)).heap.size = w.heap.size + 1 := by simp
  generalize (w.alloc (.cells #[.int .u8 (client : Int), .int .u32 (seq : Int), .int .i64 (k1 : Int), .int .u32 (job : Int), .int .u8 (state : Int), .int .i64 (k2 : Int)] 45)) = w1 at hb0 hz ⊢
  have hb2 := below_alloc w1 (.cells ([client, seq, k1, job, state, k2].map u64v).toArray 74)
  have hcs := cs_lit w1 ([client, seq, k1, job, state, k2].map u64v) 74 6 1 rfl (by decide)
  rw [hz] at hcs
  refine (refnums_calls _ 3 3 rfl _ 6 6 [client, seq, k1, job, state, k2] rfl (by decide) (by simp) HS'.out hcs).mono ?_
  clear hcs hz
  rintro e w2 ⟨v, rfl, ho, hb⟩
  rw [HY.out] at ho
  obtain ⟨a2, n2, c2, rfl, hn2, hs2, _⟩ := ob_n ho
  have S2 := hid hs2
  have N2 := hid hn2
  have W2 := hid (hb0.trans ((hb2.trans (hb.mono hb2.size)).mono hb0.size))
  clear ho hs2 hn2 hb hb2 hb0
  go_wp2_with fail
  have hC := reftie_calls a2 c2 Y w2 S2.out (by have := HL.out; omega)
  rw [N2.out] at hC
  refine hC.mono ?_
  rintro e w3 ⟨v, rfl, ho, hb⟩
  have O3 := hid (ho.base W2.out.size)
  have W3 := hid (W2.out.trans (hb.mono W2.out.size))
  clear ho hb hC
  go_wp2_with fail
  go_ret2
  exact ⟨_, rfl, O3.out, W3.out⟩
end Go.Proofs.YtmmcmldcbdaooaaDoor
