/- The walks of layer 4: is a request right, a reply, a packet? -/
import Derived.Test.YtmmcmldcbdaooaaDoorNoteB
import Derived.Deep.QuietTactic
import Derived.BigQuiet
namespace Go.Proofs.YtmmcmldcbdaooaaDoor
open Go.RowKit Go.Quad _root_.Quad _root_.Quad.Ink

def reqV (q : ReqD) : List Value := [.int .u8 (q.client : Int), .int .u32 (q.seq : Int), .int .u8 (q.kind : Int), .int .u8 (q.tier : Int), .int .i64 q.k, .int .i64 q.w, .int .u32 (q.job : Int)]
def repV (r : RepD) : List Value := [.int .u8 (r.client : Int), .int .u32 (r.seq : Int), .int .i64 r.e, .int .u32 (r.job : Int), .int .u8 (r.state : Int), .int .i64 r.credit]
def pakV (k : PakD) (v : Value) : List Value := [.int .u8 (k.node : Int), .int .u32 (k.epoch : Int), .int .u32 (k.life : Int), .int .u32 (k.seq : Int), .int .u32 (k.ack : Int), .bool k.plain, v]

theorem below_box (w : World) (o : Obj) (n : Nat) : Below w.heap.size w ((w.alloc o).drewN n) := below_drewN (below_alloc w o) n

set_option maxRecDepth 100000 in
set_option maxHeartbeats 2000000 in
theorem rightPacket_calls (k : PakD) (a : Option Addr) (c : Nat) (w : World) (h : k.Ok) (hb : k.data.length ≤ 9223372036854775807) :
    Calls Tryd.prog 39 #[.agg (pakV k (.slice a k.data.length c)).toArray] w (Said (formP k) w) := by
  obtain ⟨node, epoch, life, seq, ack, plain, blob⟩ := k
  obtain ⟨h1, h2, h3, h4, h5⟩ := h
  dsimp only at h1 h2 h3 h4 h5 hb
  obtain ⟨bl, hbl⟩ : ∃ bl, blob.length = bl := ⟨_, rfl⟩
  have hform : formP ⟨node, epoch, life, seq, ack, plain, blob⟩ = (decide (node < 16) && decide (bl ≤ 1984) && (!plain || seq == 0)) := by rw [← hbl]; rfl
  have hv : pakV ⟨node, epoch, life, seq, ack, plain, blob⟩ (.slice a blob.length c) = [.int .u8 (node : Int), .int .u32 (epoch : Int), .int .u32 (life : Int), .int .u32 (seq : Int), .int .u32 (ack : Int), .bool plain, .slice a bl c] := by rw [← hbl]; rfl
  rw [hform, hv]
  obtain ⟨res, hres⟩ : ∃ res, (decide (node < 16) && decide (bl ≤ 1984) && (!plain || seq == 0)) = res := ⟨_, rfl⟩
  rw [hres]
  have Hres := hid hres
  clear hform hv hres
  have b1 : (bl : Int) ≤ 9223372036854775807 := by omega
  have b2 : (node : Int) ≤ 255 := by omega
  have b3 : (seq : Int) ≤ 4294967295 := by omega
  clear hbl hb
  go_enter Tryd.func39, Tryd.ntmps39
  cases plain
  case' false =>
    by_cases hn : node < 16
    case' neg =>
      have Fin := hid (show (decide (node < 16) && decide (bl ≤ 1984) && (!false || seq == 0)) = false from by simp [hn])
      have hn' : decide ((node : Int) < 16) = false := by simp; omega
      go_wp2_with fail
      go_ret
      exact ⟨by rw [← Hres.out, Fin.out] <;> rfl, below_alloc _ _⟩
    have hn' : decide ((node : Int) < 16) = true := by simp; omega
    by_cases hl : bl ≤ 1984
    case' neg =>
      have Fin := hid (show (decide (node < 16) && decide (bl ≤ 1984) && (!false || seq == 0)) = false from by simp [hl])
      have hl' : decide ((bl : Int) ≤ 1984) = false := by simp; omega
      go_wp2_with fail
      go_ret
      exact ⟨by rw [← Hres.out, Fin.out] <;> rfl, below_alloc _ _⟩
    have hl' : decide ((bl : Int) ≤ 1984) = true := by simp; omega
    have Fin := hid (show (decide (node < 16) && decide (bl ≤ 1984) && (!false || seq == 0)) = true from by simp [hn, hl])
    go_wp2_with fail
    go_ret
    exact ⟨by rw [← Hres.out, Fin.out] <;> rfl, below_alloc _ _⟩
  case' true =>
    by_cases hn : node < 16
    case' neg =>
      have Fin := hid (show (decide (node < 16) && decide (bl ≤ 1984) && (!true || seq == 0)) = false from by simp [hn])
      have hn' : decide ((node : Int) < 16) = false := by simp; omega
      go_wp2_with fail
      go_ret
      exact ⟨by rw [← Hres.out, Fin.out] <;> rfl, below_alloc _ _⟩
    have hn' : decide ((node : Int) < 16) = true := by simp; omega
    by_cases hl : bl ≤ 1984
    case' neg =>
      have Fin := hid (show (decide (node < 16) && decide (bl ≤ 1984) && (!true || seq == 0)) = false from by simp [hl])
      have hl' : decide ((bl : Int) ≤ 1984) = false := by simp; omega
      go_wp2_with fail
      go_ret
      exact ⟨by rw [← Hres.out, Fin.out] <;> rfl, below_alloc _ _⟩
    have hl' : decide ((bl : Int) ≤ 1984) = true := by simp; omega
    by_cases hs : seq = 0
    case' neg =>
      have Fin := hid (show (decide (node < 16) && decide (bl ≤ 1984) && (!true || seq == 0)) = false from by simp [hs])
      have hs' : ((seq : Int) == 0) = false := by simp; omega
      go_wp2_with fail
      go_ret
      exact ⟨by rw [← Hres.out, Fin.out] <;> rfl, below_alloc _ _⟩
    have hs' : ((seq : Int) == 0) = true := by simp; omega
    have Fin := hid (show (decide (node < 16) && decide (bl ≤ 1984) && (!true || seq == 0)) = true from by simp [hn, hl, hs])
    go_wp2_with fail
    go_ret
    exact ⟨by rw [← Hres.out, Fin.out] <;> rfl, below_alloc _ _⟩

set_option maxRecDepth 100000 in
set_option maxHeartbeats 2000000 in
theorem rightReply_calls (r : RepD) (w : World) (h : r.Ok) : Calls Tryd.prog 55 #[.agg (repV r).toArray] w (Said (formR r) w) := by
  obtain ⟨client, seq, ee, job, state, credit⟩ := r
  obtain ⟨h1, h2, h3, h4, h5, h6⟩ := h
  dsimp only at h1 h2 h3 h4 h5 h6
  have hform : formR ⟨client, seq, ee, job, state, credit⟩ = (decide (client < 8) && decide (0 ≤ ee) && decide (ee ≤ 16) && decide (state ≤ 5) && (decide (0 ≤ credit) && decide (credit ≤ 10000))) := rfl
  have hv : repV ⟨client, seq, ee, job, state, credit⟩ = [.int .u8 (client : Int), .int .u32 (seq : Int), .int .i64 ee, .int .u32 (job : Int), .int .u8 (state : Int), .int .i64 credit] := rfl
  rw [hform, hv]
  obtain ⟨res, hres⟩ : ∃ res, (decide (client < 8) && decide (0 ≤ ee) && decide (ee ≤ 16) && decide (state ≤ 5) && (decide (0 ≤ credit) && decide (credit ≤ 10000))) = res := ⟨_, rfl⟩
  rw [hres]
  have Hres := hid hres
  clear hform hv hres
  have b2 : (client : Int) ≤ 255 := by omega
  have b3 : (state : Int) ≤ 255 := by omega
  go_enter Tryd.func55, Tryd.ntmps55
  by_cases hn : client < 8
  case' neg =>
    have Fin := hid (show (decide (client < 8) && decide (0 ≤ ee) && decide (ee ≤ 16) && decide (state ≤ 5) && (decide (0 ≤ credit) && decide (credit ≤ 10000))) = false from by simp [hn])
    have hn' : decide ((client : Int) < 8) = false := by simp; omega
    go_wp2_with fail
    go_ret
    exact ⟨by rw [← Hres.out, Fin.out] <;> rfl, below_alloc _ _⟩
  have hn' : decide ((client : Int) < 8) = true := by simp; omega
  by_cases he : 0 ≤ ee
  case' neg =>
    have Fin := hid (show (decide (client < 8) && decide (0 ≤ ee) && decide (ee ≤ 16) && decide (state ≤ 5) && (decide (0 ≤ credit) && decide (credit ≤ 10000))) = false from by simp [he])
    have he' : decide (0 ≤ ee) = false := by simp; omega
    go_wp2_with fail
    go_ret
    exact ⟨by rw [← Hres.out, Fin.out] <;> rfl, below_alloc _ _⟩
  by_cases hg : ee ≤ 16
  case' neg =>
    have Fin := hid (show (decide (client < 8) && decide (0 ≤ ee) && decide (ee ≤ 16) && decide (state ≤ 5) && (decide (0 ≤ credit) && decide (credit ≤ 10000))) = false from by simp [hg])
    have hg' : decide (ee ≤ 16) = false := by simp; omega
    go_wp2_with fail
    go_ret
    exact ⟨by rw [← Hres.out, Fin.out] <;> rfl, below_alloc _ _⟩
  by_cases hs : state ≤ 5
  case' neg =>
    have Fin := hid (show (decide (client < 8) && decide (0 ≤ ee) && decide (ee ≤ 16) && decide (state ≤ 5) && (decide (0 ≤ credit) && decide (credit ≤ 10000))) = false from by simp [hs])
    have hs' : decide ((state : Int) ≤ 5) = false := by simp; omega
    go_wp2_with fail
    go_ret
    exact ⟨by rw [← Hres.out, Fin.out] <;> rfl, below_alloc _ _⟩
  have hs' : decide ((state : Int) ≤ 5) = true := by simp; omega
  go_wp2_with fail
  refine (wall_calls credit _).mono ?_
  rintro e w' ⟨rfl, rfl⟩
  rcases Bool.eq_false_or_eq_true (decide (0 ≤ credit) && decide (credit ≤ 10000)) with hw | hw
  case' inr =>
    have Fin := hid (show (decide (client < 8) && decide (0 ≤ ee) && decide (ee ≤ 16) && decide (state ≤ 5) && (decide (0 ≤ credit) && decide (credit ≤ 10000))) = false from by rw [hw]; simp)
    rw [hw]
    clear hw
    go_wp2_with fail
    go_ret
    exact ⟨by rw [← Hres.out, Fin.out] <;> rfl, below_alloc _ _⟩
  have Hhw := hid hw
  rw [hw]
  clear hw
  have Fin := hid (show (decide (client < 8) && decide (0 ≤ ee) && decide (ee ≤ 16) && decide (state ≤ 5) && (decide (0 ≤ credit) && decide (credit ≤ 10000))) = true from by rw [Hhw.out]; simp [hn, he, hg, hs])
  go_wp2_with fail
  go_ret
  exact ⟨by rw [← Hres.out, Fin.out] <;> rfl, below_alloc _ _⟩

set_option maxRecDepth 100000 in
set_option maxHeartbeats 6000000 in
theorem rightRequest_calls (q : ReqD) (w : World) (h : q.Ok) : Calls Tryd.prog 52 #[.agg (reqV q).toArray] w (Said (formQ q) w) := by
  obtain ⟨client, seq, kind, tier, k, wt, job⟩ := q
  obtain ⟨h1, h2, h3, h4, h5, h6, h7⟩ := h
  dsimp only at h1 h2 h3 h4 h5 h6 h7
  have hform : formQ ⟨client, seq, kind, tier, k, wt, job⟩ = (decide (client < 8) && (decide (0 ≤ k) && decide (k ≤ 2147483647)) && (decide (0 ≤ wt) && decide (wt ≤ 2147483647)) && ((kind == 1 && job == 0) || ((kind == 2 || kind == 3) && (tier == 0 && k == 0 && wt == 0)))) := rfl
  have hv : reqV ⟨client, seq, kind, tier, k, wt, job⟩ = [.int .u8 (client : Int), .int .u32 (seq : Int), .int .u8 (kind : Int), .int .u8 (tier : Int), .int .i64 k, .int .i64 wt, .int .u32 (job : Int)] := rfl
  rw [hform, hv]
  obtain ⟨res, hres⟩ : ∃ res, (decide (client < 8) && (decide (0 ≤ k) && decide (k ≤ 2147483647)) && (decide (0 ≤ wt) && decide (wt ≤ 2147483647)) && ((kind == 1 && job == 0) || ((kind == 2 || kind == 3) && (tier == 0 && k == 0 && wt == 0)))) = res := ⟨_, rfl⟩
  rw [hres]
  have Hres := hid hres
  clear hform hv hres
  have b1 : (client : Int) ≤ 255 := by omega
  have b2 : (kind : Int) ≤ 255 := by omega
  have b3 : (tier : Int) ≤ 255 := by omega
  have b4 : (job : Int) ≤ 4294967295 := by omega
  go_enter Tryd.func52, Tryd.ntmps52
  by_cases hk1 : kind = 1
  case' pos =>
    subst hk1
    go_wp2_with fail
    go_quiet (fail)
    by_cases hn : client < 8
    case' neg =>
      have Fin := hid (show (decide (client < 8) && (decide (0 ≤ k) && decide (k ≤ 2147483647)) && (decide (0 ≤ wt) && decide (wt ≤ 2147483647)) && ((1 == 1 && job == 0) || ((1 == 2 || 1 == 3) && (tier == 0 && k == 0 && wt == 0)))) = false from by simp [hn])
      have hn' : decide ((client : Int) < 8) = false := by simp; omega
      go_wp2_with fail
      go_ret
      exact ⟨by rw [← Hres.out, Fin.out] <;> rfl, below_box _ _ _⟩
    have hn' : decide ((client : Int) < 8) = true := by simp; omega
    go_wp2_with fail
    refine (plain_calls k _).mono ?_
    rintro e w' ⟨rfl, rfl⟩
    rcases Bool.eq_false_or_eq_true (decide (0 ≤ k) && decide (k ≤ 2147483647)) with hk | hk
    case' inr =>
      have Fin := hid (show (decide (client < 8) && (decide (0 ≤ k) && decide (k ≤ 2147483647)) && (decide (0 ≤ wt) && decide (wt ≤ 2147483647)) && ((1 == 1 && job == 0) || ((1 == 2 || 1 == 3) && (tier == 0 && k == 0 && wt == 0)))) = false from by rw [hk]; simp)
      rw [hk]
      clear hk
      go_wp2_with fail
      go_ret
      exact ⟨by rw [← Hres.out, Fin.out] <;> rfl, below_box _ _ _⟩
    have Hhk := hid hk
    rw [hk]
    clear hk
    go_wp2_with fail
    refine (plain_calls wt _).mono ?_
    rintro e w' ⟨rfl, rfl⟩
    rcases Bool.eq_false_or_eq_true (decide (0 ≤ wt) && decide (wt ≤ 2147483647)) with hw | hw
    case' inr =>
      have Fin := hid (show (decide (client < 8) && (decide (0 ≤ k) && decide (k ≤ 2147483647)) && (decide (0 ≤ wt) && decide (wt ≤ 2147483647)) && ((1 == 1 && job == 0) || ((1 == 2 || 1 == 3) && (tier == 0 && k == 0 && wt == 0)))) = false from by rw [hw]; simp)
      rw [hw]
      clear hw
      go_wp2_with fail
      go_ret
      exact ⟨by rw [← Hres.out, Fin.out] <;> rfl, below_box _ _ _⟩
    have Hhw := hid hw
    rw [hw]
    clear hw
    by_cases hj : job = 0
    case' neg =>
      have Fin := hid (show (decide (client < 8) && (decide (0 ≤ k) && decide (k ≤ 2147483647)) && (decide (0 ≤ wt) && decide (wt ≤ 2147483647)) && ((1 == 1 && job == 0) || ((1 == 2 || 1 == 3) && (tier == 0 && k == 0 && wt == 0)))) = false from by simp [hj])
      have hj' : ((job : Int) == 0) = false := by simp; omega
      go_wp2_with fail
      go_ret
      exact ⟨by rw [← Hres.out, Fin.out] <;> rfl, below_box _ _ _⟩
    have hj' : ((job : Int) == 0) = true := by simp; omega
    have Fin := hid (show (decide (client < 8) && (decide (0 ≤ k) && decide (k ≤ 2147483647)) && (decide (0 ≤ wt) && decide (wt ≤ 2147483647)) && ((1 == 1 && job == 0) || ((1 == 2 || 1 == 3) && (tier == 0 && k == 0 && wt == 0)))) = true from by rw [Hhk.out, Hhw.out]; simp [hn, hj])
    go_wp2_with fail
    go_ret
    exact ⟨by rw [← Hres.out, Fin.out] <;> rfl, below_box _ _ _⟩
  have e1 : ((kind : Int) == 1) = false := by simp; omega
  by_cases hk2 : kind = 2
  case' pos =>
    subst hk2
    go_wp2_with fail
    go_quiet (fail)
    by_cases hn : client < 8
    case' neg =>
      have Fin := hid (show (decide (client < 8) && (decide (0 ≤ k) && decide (k ≤ 2147483647)) && (decide (0 ≤ wt) && decide (wt ≤ 2147483647)) && ((2 == 1 && job == 0) || ((2 == 2 || 2 == 3) && (tier == 0 && k == 0 && wt == 0)))) = false from by simp [hn])
      have hn' : decide ((client : Int) < 8) = false := by simp; omega
      go_wp2_with fail
      go_ret
      exact ⟨by rw [← Hres.out, Fin.out] <;> rfl, below_box _ _ _⟩
    have hn' : decide ((client : Int) < 8) = true := by simp; omega
    go_wp2_with fail
    refine (plain_calls k _).mono ?_
    rintro e w' ⟨rfl, rfl⟩
    rcases Bool.eq_false_or_eq_true (decide (0 ≤ k) && decide (k ≤ 2147483647)) with hk | hk
    case' inr =>
      have Fin := hid (show (decide (client < 8) && (decide (0 ≤ k) && decide (k ≤ 2147483647)) && (decide (0 ≤ wt) && decide (wt ≤ 2147483647)) && ((2 == 1 && job == 0) || ((2 == 2 || 2 == 3) && (tier == 0 && k == 0 && wt == 0)))) = false from by rw [hk]; simp)
      rw [hk]
      clear hk
      go_wp2_with fail
      go_ret
      exact ⟨by rw [← Hres.out, Fin.out] <;> rfl, below_box _ _ _⟩
    have Hhk := hid hk
    rw [hk]
    clear hk
    go_wp2_with fail
    refine (plain_calls wt _).mono ?_
    rintro e w' ⟨rfl, rfl⟩
    rcases Bool.eq_false_or_eq_true (decide (0 ≤ wt) && decide (wt ≤ 2147483647)) with hw | hw
    case' inr =>
      have Fin := hid (show (decide (client < 8) && (decide (0 ≤ k) && decide (k ≤ 2147483647)) && (decide (0 ≤ wt) && decide (wt ≤ 2147483647)) && ((2 == 1 && job == 0) || ((2 == 2 || 2 == 3) && (tier == 0 && k == 0 && wt == 0)))) = false from by rw [hw]; simp)
      rw [hw]
      clear hw
      go_wp2_with fail
      go_ret
      exact ⟨by rw [← Hres.out, Fin.out] <;> rfl, below_box _ _ _⟩
    have Hhw := hid hw
    rw [hw]
    clear hw
    by_cases ht : tier = 0
    case' neg =>
      have Fin := hid (show (decide (client < 8) && (decide (0 ≤ k) && decide (k ≤ 2147483647)) && (decide (0 ≤ wt) && decide (wt ≤ 2147483647)) && ((2 == 1 && job == 0) || ((2 == 2 || 2 == 3) && (tier == 0 && k == 0 && wt == 0)))) = false from by simp [ht])
      have ht' : ((tier : Int) == 0) = false := by simp; omega
      go_wp2_with fail
      go_ret
      exact ⟨by rw [← Hres.out, Fin.out] <;> rfl, below_box _ _ _⟩
    have ht' : ((tier : Int) == 0) = true := by simp; omega
    by_cases hk0 : k = 0
    case' neg =>
      have Fin := hid (show (decide (client < 8) && (decide (0 ≤ k) && decide (k ≤ 2147483647)) && (decide (0 ≤ wt) && decide (wt ≤ 2147483647)) && ((2 == 1 && job == 0) || ((2 == 2 || 2 == 3) && (tier == 0 && k == 0 && wt == 0)))) = false from by simp [hk0])
      have hk0' : (k == 0) = false := by simp; omega
      go_wp2_with fail
      go_ret
      exact ⟨by rw [← Hres.out, Fin.out] <;> rfl, below_box _ _ _⟩
    have hk0' : (k == 0) = true := by simp; omega
    by_cases hw0 : wt = 0
    case' neg =>
      have Fin := hid (show (decide (client < 8) && (decide (0 ≤ k) && decide (k ≤ 2147483647)) && (decide (0 ≤ wt) && decide (wt ≤ 2147483647)) && ((2 == 1 && job == 0) || ((2 == 2 || 2 == 3) && (tier == 0 && k == 0 && wt == 0)))) = false from by simp [hw0])
      have hw0' : (wt == 0) = false := by simp; omega
      go_wp2_with fail
      go_ret
      exact ⟨by rw [← Hres.out, Fin.out] <;> rfl, below_box _ _ _⟩
    have hw0' : (wt == 0) = true := by simp; omega
    have Fin := hid (show (decide (client < 8) && (decide (0 ≤ k) && decide (k ≤ 2147483647)) && (decide (0 ≤ wt) && decide (wt ≤ 2147483647)) && ((2 == 1 && job == 0) || ((2 == 2 || 2 == 3) && (tier == 0 && k == 0 && wt == 0)))) = true from by rw [Hhk.out, Hhw.out]; simp [hn, ht, hk0, hw0])
    go_wp2_with fail
    go_ret
    exact ⟨by rw [← Hres.out, Fin.out] <;> rfl, below_box _ _ _⟩
  have e2 : ((kind : Int) == 2) = false := by simp; omega
  by_cases hk3 : kind = 3
  case' pos =>
    subst hk3
    go_wp2_with fail
    go_quiet (fail)
    by_cases hn : client < 8
    case' neg =>
      have Fin := hid (show (decide (client < 8) && (decide (0 ≤ k) && decide (k ≤ 2147483647)) && (decide (0 ≤ wt) && decide (wt ≤ 2147483647)) && ((3 == 1 && job == 0) || ((3 == 2 || 3 == 3) && (tier == 0 && k == 0 && wt == 0)))) = false from by simp [hn])
      have hn' : decide ((client : Int) < 8) = false := by simp; omega
      go_wp2_with fail
      go_ret
      exact ⟨by rw [← Hres.out, Fin.out] <;> rfl, below_box _ _ _⟩
    have hn' : decide ((client : Int) < 8) = true := by simp; omega
    go_wp2_with fail
    refine (plain_calls k _).mono ?_
    rintro e w' ⟨rfl, rfl⟩
    rcases Bool.eq_false_or_eq_true (decide (0 ≤ k) && decide (k ≤ 2147483647)) with hk | hk
    case' inr =>
      have Fin := hid (show (decide (client < 8) && (decide (0 ≤ k) && decide (k ≤ 2147483647)) && (decide (0 ≤ wt) && decide (wt ≤ 2147483647)) && ((3 == 1 && job == 0) || ((3 == 2 || 3 == 3) && (tier == 0 && k == 0 && wt == 0)))) = false from by rw [hk]; simp)
      rw [hk]
      clear hk
      go_wp2_with fail
      go_ret
      exact ⟨by rw [← Hres.out, Fin.out] <;> rfl, below_box _ _ _⟩
    have Hhk := hid hk
    rw [hk]
    clear hk
    go_wp2_with fail
    refine (plain_calls wt _).mono ?_
    rintro e w' ⟨rfl, rfl⟩
    rcases Bool.eq_false_or_eq_true (decide (0 ≤ wt) && decide (wt ≤ 2147483647)) with hw | hw
    case' inr =>
      have Fin := hid (show (decide (client < 8) && (decide (0 ≤ k) && decide (k ≤ 2147483647)) && (decide (0 ≤ wt) && decide (wt ≤ 2147483647)) && ((3 == 1 && job == 0) || ((3 == 2 || 3 == 3) && (tier == 0 && k == 0 && wt == 0)))) = false from by rw [hw]; simp)
      rw [hw]
      clear hw
      go_wp2_with fail
      go_ret
      exact ⟨by rw [← Hres.out, Fin.out] <;> rfl, below_box _ _ _⟩
    have Hhw := hid hw
    rw [hw]
    clear hw
    by_cases ht : tier = 0
    case' neg =>
      have Fin := hid (show (decide (client < 8) && (decide (0 ≤ k) && decide (k ≤ 2147483647)) && (decide (0 ≤ wt) && decide (wt ≤ 2147483647)) && ((3 == 1 && job == 0) || ((3 == 2 || 3 == 3) && (tier == 0 && k == 0 && wt == 0)))) = false from by simp [ht])
      have ht' : ((tier : Int) == 0) = false := by simp; omega
      go_wp2_with fail
      go_ret
      exact ⟨by rw [← Hres.out, Fin.out] <;> rfl, below_box _ _ _⟩
    have ht' : ((tier : Int) == 0) = true := by simp; omega
    by_cases hk0 : k = 0
    case' neg =>
      have Fin := hid (show (decide (client < 8) && (decide (0 ≤ k) && decide (k ≤ 2147483647)) && (decide (0 ≤ wt) && decide (wt ≤ 2147483647)) && ((3 == 1 && job == 0) || ((3 == 2 || 3 == 3) && (tier == 0 && k == 0 && wt == 0)))) = false from by simp [hk0])
      have hk0' : (k == 0) = false := by simp; omega
      go_wp2_with fail
      go_ret
      exact ⟨by rw [← Hres.out, Fin.out] <;> rfl, below_box _ _ _⟩
    have hk0' : (k == 0) = true := by simp; omega
    by_cases hw0 : wt = 0
    case' neg =>
      have Fin := hid (show (decide (client < 8) && (decide (0 ≤ k) && decide (k ≤ 2147483647)) && (decide (0 ≤ wt) && decide (wt ≤ 2147483647)) && ((3 == 1 && job == 0) || ((3 == 2 || 3 == 3) && (tier == 0 && k == 0 && wt == 0)))) = false from by simp [hw0])
      have hw0' : (wt == 0) = false := by simp; omega
      go_wp2_with fail
      go_ret
      exact ⟨by rw [← Hres.out, Fin.out] <;> rfl, below_box _ _ _⟩
    have hw0' : (wt == 0) = true := by simp; omega
    have Fin := hid (show (decide (client < 8) && (decide (0 ≤ k) && decide (k ≤ 2147483647)) && (decide (0 ≤ wt) && decide (wt ≤ 2147483647)) && ((3 == 1 && job == 0) || ((3 == 2 || 3 == 3) && (tier == 0 && k == 0 && wt == 0)))) = true from by rw [Hhk.out, Hhw.out]; simp [hn, ht, hk0, hw0])
    go_wp2_with fail
    go_ret
    exact ⟨by rw [← Hres.out, Fin.out] <;> rfl, below_box _ _ _⟩
  have e3 : ((kind : Int) == 3) = false := by simp; omega
  have Fin := hid (show (decide (client < 8) && (decide (0 ≤ k) && decide (k ≤ 2147483647)) && (decide (0 ≤ wt) && decide (wt ≤ 2147483647)) && ((kind == 1 && job == 0) || ((kind == 2 || kind == 3) && (tier == 0 && k == 0 && wt == 0)))) = false from by simp [hk1, hk2, hk3])
  clear hk1 hk2 hk3
  go_wp2_with fail
  go_quiet (fail)
  by_cases hn : client < 8
  case' neg =>
    have hn' : decide ((client : Int) < 8) = false := by simp; omega
    go_wp2_with fail
    go_ret
    exact ⟨by rw [← Hres.out, Fin.out] <;> rfl, below_box _ _ _⟩
  have hn' : decide ((client : Int) < 8) = true := by simp; omega
  go_wp2_with fail
  go_ret
  exact ⟨by rw [← Hres.out, Fin.out] <;> rfl, below_box _ _ _⟩
end Go.Proofs.YtmmcmldcbdaooaaDoor
