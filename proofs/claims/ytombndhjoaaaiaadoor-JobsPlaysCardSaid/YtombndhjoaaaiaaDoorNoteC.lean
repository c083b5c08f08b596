/- The walks of layer 4: is a request right, a reply, a packet? -/
import Derived.Test.YtombndhjoaaaiaaDoorNoteB
import Derived.Deep.QuietTactic
import Derived.BigQuiet
namespace Go.Proofs.YtombndhjoaaaiaaDoor
open Go.RowKit Go.Quad _root_.Quad _root_.Quad.Ink

def reqV (q : ReqD) : List Value := [.int .u8 (q.client : Int), .int .u32 (q.seq : Int), .int .u8 (q.kind : Int), .int .u8 (q.tier : Int), .int .i64 q.k, .int .i64 q.w, .int .u32 (q.job : Int)]
def repV (r : RepD) : List Value := [.int .u8 (r.client : Int), .int .u32 (r.seq : Int), .int .i64 r.e, .int .u32 (r.job : Int), .int .u8 (r.state : Int), .int .i64 r.credit]
def pakV (k : PakD) (v : Value) : List Value := [.int .u8 (k.node : Int), .int .u32 (k.epoch : Int), .int .u32 (k.life : Int), .int .u32 (k.seq : Int), .int .u32 (k.ack : Int), .bool k.plain, v]

theorem below_box (w : World) (o : Obj) (n : Nat) : Below w.heap.size w ((w.alloc o).drewN n) := below_drewN (below_alloc w o) n

set_option maxRecDepth 100000 in
set_option maxHeartbeats 6000000 in
theorem rightRequest_calls (q : ReqD) (w : World) (h : q.Ok) : Calls Tryd.prog 58 #[.agg (reqV q).toArray] w (Said (formQ q) w) := by
  obtain ⟨client, seq, kind, tier, k, wt, job⟩ := q
  obtain ⟨h1, h2, h3, h4, h5, h6, h7⟩ := h
  dsimp only at h1 h2 h3 h4 h5 h6 h7
  have hform : formQ ⟨client, seq, kind, tier, k, wt, job⟩ = (decide (client < 8) && (decide (0 ≤ k) && decide (k ≤ 2147483647)) && (decide (0 ≤ wt) && decide (wt ≤ 2147483647)) && ((kind == 1 && job == 0) || ((kind == 2 || kind == 3) && (tier == 0 && k == 0 && wt == 0)))) := rfl
  have hv : reqV ⟨client, seq, kind, tier, k, wt, job⟩ = [.int .u8 (client : Int), .int .u32 (seq : Int), .int .u8 (kind : Int), .int .u8 (tier : Int), .int .i64 k, .int .i64 wt, .int .u32 (job : Int)] := rfl
  rw [hform, hv]
  obtain ⟨res, hres⟩ : ∃ res, (decide (client < 8) && (decide (0 ≤ k) && decide (k ≤ 2147483647)) && (decide (0 ≤ wt) && decide (wt ≤ 2147483647)) && ((kind == 1 && job == 0) || ((kind == 2 || kind == 3) && (tier == 0 && k == 0 && wt == 0)))) = res := ⟨_, rfl⟩
  rw [hres]
  have Hres := hid hres
  clear hform hv hres
  have b1 : (client : Int) ≤ 255 := by omega
  have b2 : (kind : Int) ≤ 255 := by omega
  have b3 : (tier : Int) ≤ 255 := by omega
  have b4 : (job : Int) ≤ 4294967295 := by omega
  go_enter Tryd.func58, Tryd.ntmps58
  by_cases hk1 : kind = 1
  case' pos =>
    subst hk1
    go_wp2_with fail
    go_quiet (fail)
    by_cases hn : client < 8
    case' neg =>
      have Fin := hid (show (decide (client < 8) && (decide (0 ≤ k) && decide (k ≤ 2147483647)) && (decide (0 ≤ wt) && decide (wt ≤ 2147483647)) && ((1 == 1 && job == 0) || ((1 == 2 || 1 == 3) && (tier == 0 && k == 0 && wt == 0)))) = false from by simp [hn])
      have hn' : decide ((client : Int) < 8) = false := by simp; omega
      go_wp2_with fail
      go_ret
      exact ⟨by rw [← Hres.out, Fin.out] <;> rfl, below_box _ _ _⟩
    have hn' : decide ((client : Int) < 8) = true := by simp; omega
    go_wp2_with fail
    refine (plain_calls k _).mono ?_
    rintro e w' ⟨rfl, rfl⟩
    rcases Bool.eq_false_or_eq_true (decide (0 ≤ k) && decide (k ≤ 2147483647)) with hk | hk
    case' inr =>
      have Fin := hid (show (decide (client < 8) && (decide (0 ≤ k) && decide (k ≤ 2147483647)) && (decide (0 ≤ wt) && decide (wt ≤ 2147483647)) && ((1 == 1 && job == 0) || ((1 == 2 || 1 == 3) && (tier == 0 && k == 0 && wt == 0)))) = false from by rw [hk]; simp)
      rw [hk]
      clear hk
      go_wp2_with fail
      go_ret
      exact ⟨by rw [← Hres.out, Fin.out] <;> rfl, below_box _ _ _⟩
    have Hhk := hid hk
    rw [hk]
    clear hk
    go_wp2_with fail
    refine (plain_calls wt _).mono ?_
    rintro e w' ⟨rfl, rfl⟩
    rcases Bool.eq_false_or_eq_true (decide (0 ≤ wt) && decide (wt ≤ 2147483647)) with hw | hw
    case' inr =>
      have Fin := hid (show (decide (client < 8) && (decide (0 ≤ k) && decide (k ≤ 2147483647)) && (decide (0 ≤ wt) && decide (wt ≤ 2147483647)) && ((1 == 1 && job == 0) || ((1 == 2 || 1 == 3) && (tier == 0 && k == 0 && wt == 0)))) = false from by rw [hw]; simp)
      rw [hw]
      clear hw
      go_wp2_with fail
      go_ret
      exact ⟨by rw [← Hres.out, Fin.out] <;> rfl, below_box _ _ _⟩
    have Hhw := hid hw
    rw [hw]
    clear hw
    by_cases hj : job = 0
    case' neg =>
      have Fin := hid (show (decide (client < 8) && (decide (0 ≤ k) && decide (k ≤ 2147483647)) && (decide (0 ≤ wt) && decide (wt ≤ 2147483647)) && ((1 == 1 && job == 0) || ((1 == 2 || 1 == 3) && (tier == 0 && k == 0 && wt == 0)))) = false from by simp [hj])
      have hj' : ((job : Int) == 0) = false := by simp; omega
      go_wp2_with fail
      go_ret
      exact ⟨by rw [← Hres.out, Fin.out] <;> rfl, below_box _ _ _⟩
    have hj' : ((job : Int) == 0) = true := by simp; omega
    have Fin := hid (show (decide (client < 8) && (decide (0 ≤ k) && decide (k ≤ 2147483647)) && (decide (0 ≤ wt) && decide (wt ≤ 2147483647)) && ((1 == 1 && job == 0) || ((1 == 2 || 1 == 3) && (tier == 0 && k == 0 && wt == 0)))) = true from by rw [Hhk.out, Hhw.out]; simp [hn, hj])
    go_wp2_with fail
    go_ret
    exact ⟨by rw [← Hres.out, Fin.out] <;> rfl, below_box _ _ _⟩
  have e1 : ((kind : Int) == 1) = false := by simp; omega
  by_cases hk2 : kind = 2
  case' pos =>
    subst hk2
    go_wp2_with fail
    go_quiet (fail)
    by_cases hn : client < 8
    case' neg =>
      have Fin := hid (show (decide (client < 8) && (decide (0 ≤ k) && decide (k ≤ 2147483647)) && (decide (0 ≤ wt) && decide (wt ≤ 2147483647)) && ((2 == 1 && job == 0) || ((2 == 2 || 2 == 3) && (tier == 0 && k == 0 && wt == 0)))) = false from by simp [hn])
      have hn' : decide ((client : Int) < 8) = false := by simp; omega
      go_wp2_with fail
      go_ret
      exact ⟨by rw [← Hres.out, Fin.out] <;> rfl, below_box _ _ _⟩
    have hn' : decide ((client : Int) < 8) = true := by simp; omega
    go_wp2_with fail
    refine (plain_calls k _).mono ?_
    rintro e w' ⟨rfl, rfl⟩
    rcases Bool.eq_false_or_eq_true (decide (0 ≤ k) && decide (k ≤ 2147483647)) with hk | hk
    case' inr =>
      have Fin := hid (show (decide (client < 8) && (decide (0 ≤ k) && decide (k ≤ 2147483647)) && (decide (0 ≤ wt) && decide (wt ≤ 2147483647)) && ((2 == 1 && job == 0) || ((2 == 2 || 2 == 3) && (tier == 0 && k == 0 && wt == 0)))) = false from by rw [hk]; simp)
      rw [hk]
      clear hk
      go_wp2_with fail
      go_ret
      exact ⟨by rw [← Hres.out, Fin.out] <;> rfl, below_box _ _ _⟩
    have Hhk := hid hk
    rw [hk]
    clear hk
    go_wp2_with fail
    refine (plain_calls wt _).mono ?_
    rintro e w' ⟨rfl, rfl⟩
    rcases Bool.eq_false_or_eq_true (decide (0 ≤ wt) && decide (wt ≤ 2147483647)) with hw | hw
    case' inr =>
      have Fin := hid (show (decide (client < 8) && (decide (0 ≤ k) && decide (k ≤ 2147483647)) && (decide (0 ≤ wt) && decide (wt ≤ 2147483647)) && ((2 == 1 && job == 0) || ((2 == 2 || 2 == 3) && (tier == 0 && k == 0 && wt == 0)))) = false from by rw [hw]; simp)
      rw [hw]
      clear hw
      go_wp2_with fail
      go_ret
      exact ⟨by rw [← Hres.out, Fin.out] <;> rfl, below_box _ _ _⟩
    have Hhw := hid hw
    rw [hw]
    clear hw
    by_cases ht : tier = 0
    case' neg =>
      have Fin := hid (show (decide (client < 8) && (decide (0 ≤ k) && decide (k ≤ 2147483647)) && (decide (0 ≤ wt) && decide (wt ≤ 2147483647)) && ((2 == 1 && job == 0) || ((2 == 2 || 2 == 3) && (tier == 0 && k == 0 && wt == 0)))) = false from by simp [ht])
      have ht' : ((tier : Int) == 0) = false := by simp; omega
      go_wp2_with fail
      go_ret
      exact ⟨by rw [← Hres.out, Fin.out] <;> rfl, below_box _ _ _⟩
    have ht' : ((tier : Int) == 0) = true := by simp; omega
    by_cases hk0 : k = 0
    case' neg =>
      have Fin := hid (show (decide (client < 8) && (decide (0 ≤ k) && decide (k ≤ 2147483647)) && (decide (0 ≤ wt) && decide (wt ≤ 2147483647)) && ((2 == 1 && job == 0) || ((2 == 2 || 2 == 3) && (tier == 0 && k == 0 && wt == 0)))) = false from by simp [hk0])
      have hk0' : (k == 0) = false := by simp; omega
      go_wp2_with fail
      go_ret
      exact ⟨by rw [← Hres.out, Fin.out] <;> rfl, below_box _ _ _⟩
    have hk0' : (k == 0) = true := by simp; omega
    by_cases hw0 : wt = 0
    case' neg =>
      have Fin := hid (show (decide (client < 8) && (decide (0 ≤ k) && decide (k ≤ 2147483647)) && (decide (0 ≤ wt) && decide (wt ≤ 2147483647)) && ((2 == 1 && job == 0) || ((2 == 2 || 2 == 3) && (tier == 0 && k == 0 && wt == 0)))) = false from by simp [hw0])
      have hw0' : (wt == 0) = false := by simp; omega
      go_wp2_with fail
      go_ret
      exact ⟨by rw [← Hres.out, Fin.out] <;> rfl, below_box _ _ _⟩
    have hw0' : (wt == 0) = true := by simp; omega
    have Fin := hid (show (decide (client < 8) && (decide (0 ≤ k) && decide (k ≤ 2147483647)) && (decide (0 ≤ wt) && decide (wt ≤ 2147483647)) && ((2 == 1 && job == 0) || ((2 == 2 || 2 == 3) && (tier == 0 && k == 0 && wt == 0)))) = true from by rw [Hhk.out, Hhw.out]; simp [hn, ht, hk0, hw0])
    go_wp2_with fail
    go_ret
    exact ⟨by rw [← Hres.out, Fin.out] <;> rfl, below_box _ _ _⟩
  have e2 : ((kind : Int) == 2) = false := by simp; omega
  by_cases hk3 : kind = 3
  case' pos =>
    subst hk3
    go_wp2_with fail
    go_quiet (fail)
    by_cases hn : client < 8
    case' neg =>
      have Fin := hid (show (decide (client < 8) && (decide (0 ≤ k) && decide (k ≤ 2147483647)) && (decide (0 ≤ wt) && decide (wt ≤ 2147483647)) && ((3 == 1 && job == 0) || ((3 == 2 || 3 == 3) && (tier == 0 && k == 0 && wt == 0)))) = false from by simp [hn])
      have hn' : decide ((client : Int) < 8) = false := by simp; omega
      go_wp2_with fail
      go_ret
      exact ⟨by rw [← Hres.out, Fin.out] <;> rfl, below_box _ _ _⟩
    have hn' : decide ((client : Int) < 8) = true := by simp; omega
    go_wp2_with fail
    refine (plain_calls k _).mono ?_
    rintro e w' ⟨rfl, rfl⟩
    rcases Bool.eq_false_or_eq_true (decide (0 ≤ k) && decide (k ≤ 2147483647)) with hk | hk
    case' inr =>
      have Fin := hid (show (decide (client < 8) && (decide (0 ≤ k) && decide (k ≤ 2147483647)) && (decide (0 ≤ wt) && decide (wt ≤ 2147483647)) && ((3 == 1 && job == 0) || ((3 == 2 || 3 == 3) && (tier == 0 && k == 0 && wt == 0)))) = false from by rw [hk]; simp)
      rw [hk]
      clear hk
      go_wp2_with fail
      go_ret
      exact ⟨by rw [← Hres.out, Fin.out] <;> rfl, below_box _ _ _⟩
    have Hhk := hid hk
    rw [hk]
    clear hk
    go_wp2_with fail
    refine (plain_calls wt _).mono ?_
    rintro e w' ⟨rfl, rfl⟩
    rcases Bool.eq_false_or_eq_true (decide (0 ≤ wt) && decide (wt ≤ 2147483647)) with hw | hw
    case' inr =>
      have Fin := hid (show (decide (client < 8) && (decide (0 ≤ k) && decide (k ≤ 2147483647)) && (decide (0 ≤ wt) && decide (wt ≤ 2147483647)) && ((3 == 1 && job == 0) || ((3 == 2 || 3 == 3) && (tier == 0 && k == 0 && wt == 0)))) = false from by rw [hw]; simp)
      rw [hw]
      clear hw
      go_wp2_with fail
      go_ret
      exact ⟨by rw [← Hres.out, Fin.out] <;> rfl, below_box _ _ _⟩
    have Hhw := hid hw
    rw [hw]
    clear hw
    by_cases ht : tier = 0
    case' neg =>
      have Fin := hid (show (decide (client < 8) && (decide (0 ≤ k) && decide (k ≤ 2147483647)) && (decide (0 ≤ wt) && decide (wt ≤ 2147483647)) && ((3 == 1 && job == 0) || ((3 == 2 || 3 == 3) && (tier == 0 && k == 0 && wt == 0)))) = false from by simp [ht])
      have ht' : ((tier : Int) == 0) = false := by simp; omega
      go_wp2_with fail
      go_ret
      exact ⟨by rw [← Hres.out, Fin.out] <;> rfl, below_box _ _ _⟩
    have ht' : ((tier : Int) == 0) = true := by simp; omega
    by_cases hk0 : k = 0
    case' neg =>
      have Fin := hid (show (decide (client < 8) && (decide (0 ≤ k) && decide (k ≤ 2147483647)) && (decide (0 ≤ wt) && decide (wt ≤ 2147483647)) && ((3 == 1 && job == 0) || ((3 == 2 || 3 == 3) && (tier == 0 && k == 0 && wt == 0)))) = false from by simp [hk0])
      have hk0' : (k == 0) = false := by simp; omega
      go_wp2_with fail
      go_ret
      exact ⟨by rw [← Hres.out, Fin.out] <;> rfl, below_box _ _ _⟩
    have hk0' : (k == 0) = true := by simp; omega
    by_cases hw0 : wt = 0
    case' neg =>
      have Fin := hid (show (decide (client < 8) && (decide (0 ≤ k) && decide (k ≤ 2147483647)) && (decide (0 ≤ wt) && decide (wt ≤ 2147483647)) && ((3 == 1 && job == 0) || ((3 == 2 || 3 == 3) && (tier == 0 && k == 0 && wt == 0)))) = false from by simp [hw0])
      have hw0' : (wt == 0) = false := by simp; omega
      go_wp2_with fail
      go_ret
      exact ⟨by rw [← Hres.out, Fin.out] <;> rfl, below_box _ _ _⟩
    have hw0' : (wt == 0) = true := by simp; omega
    have Fin := hid (show (decide (client < 8) && (decide (0 ≤ k) && decide (k ≤ 2147483647)) && (decide (0 ≤ wt) && decide (wt ≤ 2147483647)) && ((3 == 1 && job == 0) || ((3 == 2 || 3 == 3) && (tier == 0 && k == 0 && wt == 0)))) = true from by rw [Hhk.out, Hhw.out]; simp [hn, ht, hk0, hw0])
    go_wp2_with fail
    go_ret
    exact ⟨by rw [← Hres.out, Fin.out] <;> rfl, below_box _ _ _⟩
  have e3 : ((kind : Int) == 3) = false := by simp; omega
  have Fin := hid (show (decide (client < 8) && (decide (0 ≤ k) && decide (k ≤ 2147483647)) && (decide (0 ≤ wt) && decide (wt ≤ 2147483647)) && ((kind == 1 && job == 0) || ((kind == 2 || kind == 3) && (tier == 0 && k == 0 && wt == 0)))) = false from by simp [hk1, hk2, hk3])
  clear hk1 hk2 hk3
  go_wp2_with fail
  go_quiet (fail)
  by_cases hn : client < 8
  case' neg =>
    have hn' : decide ((client : Int) < 8) = false := by simp; omega
    go_wp2_with fail
    go_ret
    exact ⟨by rw [← Hres.out, Fin.out] <;> rfl, below_box _ _ _⟩
  have hn' : decide ((client : Int) < 8) = true := by simp; omega
  go_wp2_with fail
  go_ret
  exact ⟨by rw [← Hres.out, Fin.out] <;> rfl, below_box _ _ _⟩
end Go.Proofs.YtombndhjoaaaiaaDoor
