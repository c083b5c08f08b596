/- The walks of layer 4: the document's requests, replies and packets. -/
import Derived.Test.YtmmcmldcbdaooaaDoorNoteL
import Derived.Test.YtmmcmldcbdaooaaDoorNoteE
import Derived.Test.YtmmcmldcbdaooaaDoorKnotC
namespace Go.Proofs.YtmmcmldcbdaooaaDoor
open Go.RowKit Go.Quad _root_.Quad _root_.Quad.Ink

theorem convU {w : World} : True := trivial

set_option maxRecDepth 100000 in
set_option maxHeartbeats 8000000 in
theorem refFormRequest_calls (q : ReqD) (w : World) (h : q.Ok) : Calls Tryd.prog 54 #[.agg (reqV q).toArray] w (Said (formQ q) w) := by
  obtain ⟨client, seq, kind, tier, k, wt, job⟩ := q
  obtain ⟨h0, h1, h2, h3, h4, h5, h6⟩ := h
  dsimp only at h0 h1 h2 h3 h4 h5 h6
  have hform : formQ ⟨client, seq, kind, tier, k, wt, job⟩ = (decide (client < 8) && (decide (0 ≤ k) && decide (k ≤ 2147483647)) && (decide (0 ≤ wt) && decide (wt ≤ 2147483647)) && ((kind == 1 && job == 0) || ((kind == 2 || kind == 3) && (tier == 0 && k == 0 && wt == 0)))) := rfl
  rw [hform]
  simp only [reqV]
  obtain ⟨res, hres⟩ : ∃ res, (decide (client < 8) && (decide (0 ≤ k) && decide (k ≤ 2147483647)) && (decide (0 ≤ wt) && decide (wt ≤ 2147483647)) && ((kind == 1 && job == 0) || ((kind == 2 || kind == 3) && (tier == 0 && k == 0 && wt == 0)))) = res := ⟨_, rfl⟩
  rw [hres]
  have Hres := hid hres
  clear hform hres
  have b1 : (client : Int) ≤ 255 := by omega
  have b2 : (kind : Int) ≤ 255 := by omega
  have b3 : (tier : Int) ≤ 255 := by omega
  have b4 : (job : Int) ≤ 4294967295 := by omega
  by_cases hn : client < 8
  case' neg =>
    have Fin := hid (show (decide (client < 8) && (decide (0 ≤ k) && decide (k ≤ 2147483647)) && (decide (0 ≤ wt) && decide (wt ≤ 2147483647)) && ((kind == 1 && job == 0) || ((kind == 2 || kind == 3) && (tier == 0 && k == 0 && wt == 0)))) = false from by simp [hn])
    have hn' : decide ((7 : Int) < (client : Int)) = true := by simp; omega
    clear hn
    go_enter Tryd.func54, Tryd.ntmps54
    go_wp2_with fail
    go_ret
    exact ⟨by rw [← Hres.out, Fin.out] <;> rfl, below_alloc _ _⟩
  have hn' : decide ((7 : Int) < (client : Int)) = false := by simp; omega
  by_cases ha : 0 ≤ k
  case' neg =>
    have Fin := hid (show (decide (client < 8) && (decide (0 ≤ k) && decide (k ≤ 2147483647)) && (decide (0 ≤ wt) && decide (wt ≤ 2147483647)) && ((kind == 1 && job == 0) || ((kind == 2 || kind == 3) && (tier == 0 && k == 0 && wt == 0)))) = false from by simp [ha])
    have ha' : decide (k < 0) = true := by simp; omega
    clear ha
    go_enter Tryd.func54, Tryd.ntmps54
    go_wp2_with fail
    go_ret
    exact ⟨by rw [← Hres.out, Fin.out] <;> rfl, below_alloc _ _⟩
  have ha' : decide (k < 0) = false := by simp; omega
  by_cases hb : k ≤ 2147483647
  case' neg =>
    have Fin := hid (show (decide (client < 8) && (decide (0 ≤ k) && decide (k ≤ 2147483647)) && (decide (0 ≤ wt) && decide (wt ≤ 2147483647)) && ((kind == 1 && job == 0) || ((kind == 2 || kind == 3) && (tier == 0 && k == 0 && wt == 0)))) = false from by simp [hb])
    have hb' : decide ((2147483647 : Int) < k) = true := by simp; omega
    clear hb
    go_enter Tryd.func54, Tryd.ntmps54
    go_wp2_with fail
    go_ret
    exact ⟨by rw [← Hres.out, Fin.out] <;> rfl, below_alloc _ _⟩
  have hb' : decide ((2147483647 : Int) < k) = false := by simp; omega
  by_cases hc : 0 ≤ wt
  case' neg =>
    have Fin := hid (show (decide (client < 8) && (decide (0 ≤ k) && decide (k ≤ 2147483647)) && (decide (0 ≤ wt) && decide (wt ≤ 2147483647)) && ((kind == 1 && job == 0) || ((kind == 2 || kind == 3) && (tier == 0 && k == 0 && wt == 0)))) = false from by simp [hc])
    have hc' : decide (wt < 0) = true := by simp; omega
    clear hc
    go_enter Tryd.func54, Tryd.ntmps54
    go_wp2_with fail
    go_ret
    exact ⟨by rw [← Hres.out, Fin.out] <;> rfl, below_alloc _ _⟩
  have hc' : decide (wt < 0) = false := by simp; omega
  by_cases hd : wt ≤ 2147483647
  case' neg =>
    have Fin := hid (show (decide (client < 8) && (decide (0 ≤ k) && decide (k ≤ 2147483647)) && (decide (0 ≤ wt) && decide (wt ≤ 2147483647)) && ((kind == 1 && job == 0) || ((kind == 2 || kind == 3) && (tier == 0 && k == 0 && wt == 0)))) = false from by simp [hd])
    have hd' : decide ((2147483647 : Int) < wt) = true := by simp; omega
    clear hd
    go_enter Tryd.func54, Tryd.ntmps54
    go_wp2_with fail
    go_ret
    exact ⟨by rw [← Hres.out, Fin.out] <;> rfl, below_alloc _ _⟩
  have hd' : decide ((2147483647 : Int) < wt) = false := by simp; omega
  by_cases hk1 : kind = 1
  case' pos =>
    subst hk1
    by_cases hj : job = 0
    case' neg =>
      have Fin := hid (show (decide (client < 8) && (decide (0 ≤ k) && decide (k ≤ 2147483647)) && (decide (0 ≤ wt) && decide (wt ≤ 2147483647)) && ((1 == 1 && job == 0) || ((1 == 2 || 1 == 3) && (tier == 0 && k == 0 && wt == 0)))) = false from by simp [hj])
      have hj' : ((job : Int) == 0) = false := by simp; omega
      clear hj
      go_enter Tryd.func54, Tryd.ntmps54
      go_wp2_with fail
      go_ret
      exact ⟨by rw [← Hres.out, Fin.out] <;> rfl, below_alloc _ _⟩
    have hj' : ((job : Int) == 0) = true := by simp; omega
    have Fin := hid (show (decide (client < 8) && (decide (0 ≤ k) && decide (k ≤ 2147483647)) && (decide (0 ≤ wt) && decide (wt ≤ 2147483647)) && ((1 == 1 && job == 0) || ((1 == 2 || 1 == 3) && (tier == 0 && k == 0 && wt == 0)))) = true from by simp [hn, ha, hb, hc, hd, hj])
    go_enter Tryd.func54, Tryd.ntmps54
    go_wp2_with fail
    go_ret
    exact ⟨by rw [← Hres.out, Fin.out] <;> rfl, below_alloc _ _⟩
  have e1 : ((kind : Int) == 1) = false := by simp; omega
  by_cases hk2 : kind = 2
  case' pos =>
    subst hk2
    by_cases ht : tier = 0
    case' neg =>
      have Fin := hid (show (decide (client < 8) && (decide (0 ≤ k) && decide (k ≤ 2147483647)) && (decide (0 ≤ wt) && decide (wt ≤ 2147483647)) && ((2 == 1 && job == 0) || ((2 == 2 || 2 == 3) && (tier == 0 && k == 0 && wt == 0)))) = false from by simp [ht])
      have ht' : ((tier : Int) == 0) = false := by simp; omega
      clear ht
      go_enter Tryd.func54, Tryd.ntmps54
      go_wp2_with fail
      go_ret
      exact ⟨by rw [← Hres.out, Fin.out] <;> rfl, below_alloc _ _⟩
    have ht' : ((tier : Int) == 0) = true := by simp; omega
    by_cases hz : k = 0
    case' neg =>
      have Fin := hid (show (decide (client < 8) && (decide (0 ≤ k) && decide (k ≤ 2147483647)) && (decide (0 ≤ wt) && decide (wt ≤ 2147483647)) && ((2 == 1 && job == 0) || ((2 == 2 || 2 == 3) && (tier == 0 && k == 0 && wt == 0)))) = false from by simp [hz])
      have hz' : (k == 0) = false := by simpa using hz
      clear hz
      go_enter Tryd.func54, Tryd.ntmps54
      go_wp2_with fail
      go_ret
      exact ⟨by rw [← Hres.out, Fin.out] <;> rfl, below_alloc _ _⟩
    have hz' : (k == 0) = true := by simpa using hz
    by_cases hv : wt = 0
    case' neg =>
      have Fin := hid (show (decide (client < 8) && (decide (0 ≤ k) && decide (k ≤ 2147483647)) && (decide (0 ≤ wt) && decide (wt ≤ 2147483647)) && ((2 == 1 && job == 0) || ((2 == 2 || 2 == 3) && (tier == 0 && k == 0 && wt == 0)))) = false from by simp [hv])
      have hv' : (wt == 0) = false := by simpa using hv
      clear hv
      go_enter Tryd.func54, Tryd.ntmps54
      go_wp2_with fail
      go_ret
      exact ⟨by rw [← Hres.out, Fin.out] <;> rfl, below_alloc _ _⟩
    have hv' : (wt == 0) = true := by simpa using hv
    have Fin := hid (show (decide (client < 8) && (decide (0 ≤ k) && decide (k ≤ 2147483647)) && (decide (0 ≤ wt) && decide (wt ≤ 2147483647)) && ((2 == 1 && job == 0) || ((2 == 2 || 2 == 3) && (tier == 0 && k == 0 && wt == 0)))) = true from by simp [hn, ha, hb, hc, hd, ht, hz, hv])
    go_enter Tryd.func54, Tryd.ntmps54
    go_wp2_with fail
    go_ret
    exact ⟨by rw [← Hres.out, Fin.out] <;> rfl, below_alloc _ _⟩
  have e2 : ((kind : Int) == 2) = false := by simp; omega
  by_cases hk3 : kind = 3
  case' pos =>
    subst hk3
    by_cases ht : tier = 0
    case' neg =>
      have Fin := hid (show (decide (client < 8) && (decide (0 ≤ k) && decide (k ≤ 2147483647)) && (decide (0 ≤ wt) && decide (wt ≤ 2147483647)) && ((3 == 1 && job == 0) || ((3 == 2 || 3 == 3) && (tier == 0 && k == 0 && wt == 0)))) = false from by simp [ht])
      have ht' : ((tier : Int) == 0) = false := by simp; omega
      clear ht
      go_enter Tryd.func54, Tryd.ntmps54
      go_wp2_with fail
      go_ret
      exact ⟨by rw [← Hres.out, Fin.out] <;> rfl, below_alloc _ _⟩
    have ht' : ((tier : Int) == 0) = true := by simp; omega
    by_cases hz : k = 0
    case' neg =>
      have Fin := hid (show (decide (client < 8) && (decide (0 ≤ k) && decide (k ≤ 2147483647)) && (decide (0 ≤ wt) && decide (wt ≤ 2147483647)) && ((3 == 1 && job == 0) || ((3 == 2 || 3 == 3) && (tier == 0 && k == 0 && wt == 0)))) = false from by simp [hz])
      have hz' : (k == 0) = false := by simpa using hz
      clear hz
      go_enter Tryd.func54, Tryd.ntmps54
      go_wp2_with fail
      go_ret
      exact ⟨by rw [← Hres.out, Fin.out] <;> rfl, below_alloc _ _⟩
    have hz' : (k == 0) = true := by simpa using hz
    by_cases hv : wt = 0
    case' neg =>
      have Fin := hid (show (decide (client < 8) && (decide (0 ≤ k) && decide (k ≤ 2147483647)) && (decide (0 ≤ wt) && decide (wt ≤ 2147483647)) && ((3 == 1 && job == 0) || ((3 == 2 || 3 == 3) && (tier == 0 && k == 0 && wt == 0)))) = false from by simp [hv])
      have hv' : (wt == 0) = false := by simpa using hv
      clear hv
      go_enter Tryd.func54, Tryd.ntmps54
      go_wp2_with fail
      go_ret
      exact ⟨by rw [← Hres.out, Fin.out] <;> rfl, below_alloc _ _⟩
    have hv' : (wt == 0) = true := by simpa using hv
    have Fin := hid (show (decide (client < 8) && (decide (0 ≤ k) && decide (k ≤ 2147483647)) && (decide (0 ≤ wt) && decide (wt ≤ 2147483647)) && ((3 == 1 && job == 0) || ((3 == 2 || 3 == 3) && (tier == 0 && k == 0 && wt == 0)))) = true from by simp [hn, ha, hb, hc, hd, ht, hz, hv])
    go_enter Tryd.func54, Tryd.ntmps54
    go_wp2_with fail
    go_ret
    exact ⟨by rw [← Hres.out, Fin.out] <;> rfl, below_alloc _ _⟩
  have e3 : ((kind : Int) == 3) = false := by simp; omega
  have Fin := hid (show (decide (client < 8) && (decide (0 ≤ k) && decide (k ≤ 2147483647)) && (decide (0 ≤ wt) && decide (wt ≤ 2147483647)) && ((kind == 1 && job == 0) || ((kind == 2 || kind == 3) && (tier == 0 && k == 0 && wt == 0)))) = false from by simp [hk1, hk2, hk3])
  clear hk1 hk2 hk3
  go_enter Tryd.func54, Tryd.ntmps54
  go_wp2_with fail
  go_ret
  exact ⟨by rw [← Hres.out, Fin.out] <;> rfl, below_alloc _ _⟩
end Go.Proofs.YtmmcmldcbdaooaaDoor
