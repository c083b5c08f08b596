/- The document's FormRequest (as in NoteM), for a seat without the Note laws. (Several texts in one: JobForm, JobY, JobDo, JobNil.) -/
import Derived.Test.YtombndhjoaaaiaaDoorJobH
import Derived.Test.YtombndhjoaaaiaaDoorJobDoc
import Derived.Test.YtombndhjoaaaiaaDoorJobRdG

/- The document's FormRequest (as in NoteM), for a seat without the Note laws. -/
namespace Go.Proofs.YtombndhjoaaaiaaDoor
open Go.RowKit Go.Quad _root_.Quad _root_.Quad.Ink

set_option maxRecDepth 100000 in
set_option maxHeartbeats 8000000 in
theorem refFormRequest_calls (q : ReqD) (w : World) (h : q.Ok) : Calls Tryd.prog 51 #[.agg (reqV q).toArray] w (Said (formQ q) w) := by
  obtain ⟨client, seq, kind, tier, k, wt, job⟩ := q
  obtain ⟨h0, h1, h2, h3, h4, h5, h6⟩ := h
  dsimp only at h0 h1 h2 h3 h4 h5 h6
  have hform : formQ ⟨client, seq, kind, tier, k, wt, job⟩ = (decide (client < 8) && (decide (0 ≤ k) && decide (k ≤ 2147483647)) && (decide (0 ≤ wt) && decide (wt ≤ 2147483647)) && ((kind == 1 && job == 0) || ((kind == 2 || kind == 3) && (tier == 0 && k == 0 && wt == 0)))) := rfl
  rw [hform]
  simp only [reqV]
  obtain ⟨res, hres⟩ : ∃ res, (decide (client < 8) && (decide (0 ≤ k) && decide (k ≤ 2147483647)) && (decide (0 ≤ wt) && decide (wt ≤ 2147483647)) && ((kind == 1 && job == 0) || ((kind == 2 || kind == 3) && (tier == 0 && k == 0 && wt == 0)))) = res := ⟨_, rfl⟩
  rw [hres]
  have Hres := hid hres
  clear hform hres
  have b1 : (client : Int) ≤ 255 := by omega
  have b2 : (kind : Int) ≤ 255 := by omega
  have b3 : (tier : Int) ≤ 255 := by omega
  have b4 : (job : Int) ≤ 4294967295 := by omega
  by_cases hn : client < 8
  case' neg =>
    have Fin := hid (show (decide (client < 8) && (decide (0 ≤ k) && decide (k ≤ 2147483647)) && (decide (0 ≤ wt) && decide (wt ≤ 2147483647)) && ((kind == 1 && job == 0) || ((kind == 2 || kind == 3) && (tier == 0 && k == 0 && wt == 0)))) = false from by simp [hn])
    have hn' : decide ((7 : Int) < (client : Int)) = true := by simp; omega
    clear hn
    go_enter Tryd.func51, Tryd.ntmps51
    go_wp2_with fail
    go_ret
    exact ⟨by rw [← Hres.out, Fin.out] <;> rfl, below_alloc _ _⟩
  have hn' : decide ((7 : Int) < (client : Int)) = false := by simp; omega
  by_cases ha : 0 ≤ k
  case' neg =>
    have Fin := hid (show (decide (client < 8) && (decide (0 ≤ k) && decide (k ≤ 2147483647)) && (decide (0 ≤ wt) && decide (wt ≤ 2147483647)) && ((kind == 1 && job == 0) || ((kind == 2 || kind == 3) && (tier == 0 && k == 0 && wt == 0)))) = false from by simp [ha])
    have ha' : decide (k < 0) = true := by simp; omega
    clear ha
    go_enter Tryd.func51, Tryd.ntmps51
    go_wp2_with fail
    go_ret
    exact ⟨by rw [← Hres.out, Fin.out] <;> rfl, below_alloc _ _⟩
  have ha' : decide (k < 0) = false := by simp; omega
  by_cases hb : k ≤ 2147483647
  case' neg =>
    have Fin := hid (show (decide (client < 8) && (decide (0 ≤ k) && decide (k ≤ 2147483647)) && (decide (0 ≤ wt) && decide (wt ≤ 2147483647)) && ((kind == 1 && job == 0) || ((kind == 2 || kind == 3) && (tier == 0 && k == 0 && wt == 0)))) = false from by simp [hb])
    have hb' : decide ((2147483647 : Int) < k) = true := by simp; omega
    clear hb
    go_enter Tryd.func51, Tryd.ntmps51
    go_wp2_with fail
    go_ret
    exact ⟨by rw [← Hres.out, Fin.out] <;> rfl, below_alloc _ _⟩
  have hb' : decide ((2147483647 : Int) < k) = false := by simp; omega
  by_cases hc : 0 ≤ wt
  case' neg =>
    have Fin := hid (show (decide (client < 8) && (decide (0 ≤ k) && decide (k ≤ 2147483647)) && (decide (0 ≤ wt) && decide (wt ≤ 2147483647)) && ((kind == 1 && job == 0) || ((kind == 2 || kind == 3) && (tier == 0 && k == 0 && wt == 0)))) = false from by simp [hc])
    have hc' : decide (wt < 0) = true := by simp; omega
    clear hc
    go_enter Tryd.func51, Tryd.ntmps51
    go_wp2_with fail
    go_ret
    exact ⟨by rw [← Hres.out, Fin.out] <;> rfl, below_alloc _ _⟩
  have hc' : decide (wt < 0) = false := by simp; omega
  by_cases hd : wt ≤ 2147483647
  case' neg =>
    have Fin := hid (show (decide (client < 8) && (decide (0 ≤ k) && decide (k ≤ 2147483647)) && (decide (0 ≤ wt) && decide (wt ≤ 2147483647)) && ((kind == 1 && job == 0) || ((kind == 2 || kind == 3) && (tier == 0 && k == 0 && wt == 0)))) = false from by simp [hd])
    have hd' : decide ((2147483647 : Int) < wt) = true := by simp; omega
    clear hd
    go_enter Tryd.func51, Tryd.ntmps51
    go_wp2_with fail
    go_ret
    exact ⟨by rw [← Hres.out, Fin.out] <;> rfl, below_alloc _ _⟩
  have hd' : decide ((2147483647 : Int) < wt) = false := by simp; omega
  by_cases hk1 : kind = 1
  case' pos =>
    subst hk1
    by_cases hj : job = 0
    case' neg =>
      have Fin := hid (show (decide (client < 8) && (decide (0 ≤ k) && decide (k ≤ 2147483647)) && (decide (0 ≤ wt) && decide (wt ≤ 2147483647)) && ((1 == 1 && job == 0) || ((1 == 2 || 1 == 3) && (tier == 0 && k == 0 && wt == 0)))) = false from by simp [hj])
      have hj' : ((job : Int) == 0) = false := by simp; omega
      clear hj
      go_enter Tryd.func51, Tryd.ntmps51
      go_wp2_with fail
      go_ret
      exact ⟨by rw [← Hres.out, Fin.out] <;> rfl, below_alloc _ _⟩
    have hj' : ((job : Int) == 0) = true := by simp; omega
    have Fin := hid (show (decide (client < 8) && (decide (0 ≤ k) && decide (k ≤ 2147483647)) && (decide (0 ≤ wt) && decide (wt ≤ 2147483647)) && ((1 == 1 && job == 0) || ((1 == 2 || 1 == 3) && (tier == 0 && k == 0 && wt == 0)))) = true from by simp [hn, ha, hb, hc, hd, hj])
    go_enter Tryd.func51, Tryd.ntmps51
    go_wp2_with fail
    go_ret
    exact ⟨by rw [← Hres.out, Fin.out] <;> rfl, below_alloc _ _⟩
  have e1 : ((kind : Int) == 1) = false := by simp; omega
  by_cases hk2 : kind = 2
  case' pos =>
    subst hk2
    by_cases ht : tier = 0
    case' neg =>
      have Fin := hid (show (decide (client < 8) && (decide (0 ≤ k) && decide (k ≤ 2147483647)) && (decide (0 ≤ wt) && decide (wt ≤ 2147483647)) && ((2 == 1 && job == 0) || ((2 == 2 || 2 == 3) && (tier == 0 && k == 0 && wt == 0)))) = false from by simp [ht])
      have ht' : ((tier : Int) == 0) = false := by simp; omega
      clear ht
      go_enter Tryd.func51, Tryd.ntmps51
      go_wp2_with fail
      go_ret
      exact ⟨by rw [← Hres.out, Fin.out] <;> rfl, below_alloc _ _⟩
    have ht' : ((tier : Int) == 0) = true := by simp; omega
    by_cases hz : k = 0
    case' neg =>
      have Fin := hid (show (decide (client < 8) && (decide (0 ≤ k) && decide (k ≤ 2147483647)) && (decide (0 ≤ wt) && decide (wt ≤ 2147483647)) && ((2 == 1 && job == 0) || ((2 == 2 || 2 == 3) && (tier == 0 && k == 0 && wt == 0)))) = false from by simp [hz])
      have hz' : (k == 0) = false := by simpa using hz
      clear hz
      go_enter Tryd.func51, Tryd.ntmps51
      go_wp2_with fail
      go_ret
      exact ⟨by rw [← Hres.out, Fin.out] <;> rfl, below_alloc _ _⟩
    have hz' : (k == 0) = true := by simpa using hz
    by_cases hv : wt = 0
    case' neg =>
      have Fin := hid (show (decide (client < 8) && (decide (0 ≤ k) && decide (k ≤ 2147483647)) && (decide (0 ≤ wt) && decide (wt ≤ 2147483647)) && ((2 == 1 && job == 0) || ((2 == 2 || 2 == 3) && (tier == 0 && k == 0 && wt == 0)))) = false from by simp [hv])
      have hv' : (wt == 0) = false := by simpa using hv
      clear hv
      go_enter Tryd.func51, Tryd.ntmps51
      go_wp2_with fail
      go_ret
      exact ⟨by rw [← Hres.out, Fin.out] <;> rfl, below_alloc _ _⟩
    have hv' : (wt == 0) = true := by simpa using hv
    have Fin := hid (show (decide (client < 8) && (decide (0 ≤ k) && decide (k ≤ 2147483647)) && (decide (0 ≤ wt) && decide (wt ≤ 2147483647)) && ((2 == 1 && job == 0) || ((2 == 2 || 2 == 3) && (tier == 0 && k == 0 && wt == 0)))) = true from by simp [hn, ht, hz, hv])
    go_enter Tryd.func51, Tryd.ntmps51
    go_wp2_with fail
    go_ret
    exact ⟨by rw [← Hres.out, Fin.out] <;> rfl, below_alloc _ _⟩
  have e2 : ((kind : Int) == 2) = false := by simp; omega
  by_cases hk3 : kind = 3
  case' pos =>
    subst hk3
    by_cases ht : tier = 0
    case' neg =>
      have Fin := hid (show (decide (client < 8) && (decide (0 ≤ k) && decide (k ≤ 2147483647)) && (decide (0 ≤ wt) && decide (wt ≤ 2147483647)) && ((3 == 1 && job == 0) || ((3 == 2 || 3 == 3) && (tier == 0 && k == 0 && wt == 0)))) = false from by simp [ht])
      have ht' : ((tier : Int) == 0) = false := by simp; omega
      clear ht
      go_enter Tryd.func51, Tryd.ntmps51
      go_wp2_with fail
      go_ret
      exact ⟨by rw [← Hres.out, Fin.out] <;> rfl, below_alloc _ _⟩
    have ht' : ((tier : Int) == 0) = true := by simp; omega
    by_cases hz : k = 0
    case' neg =>
      have Fin := hid (show (decide (client < 8) && (decide (0 ≤ k) && decide (k ≤ 2147483647)) && (decide (0 ≤ wt) && decide (wt ≤ 2147483647)) && ((3 == 1 && job == 0) || ((3 == 2 || 3 == 3) && (tier == 0 && k == 0 && wt == 0)))) = false from by simp [hz])
      have hz' : (k == 0) = false := by simpa using hz
      clear hz
      go_enter Tryd.func51, Tryd.ntmps51
      go_wp2_with fail
      go_ret
      exact ⟨by rw [← Hres.out, Fin.out] <;> rfl, below_alloc _ _⟩
    have hz' : (k == 0) = true := by simpa using hz
    by_cases hv : wt = 0
    case' neg =>
      have Fin := hid (show (decide (client < 8) && (decide (0 ≤ k) && decide (k ≤ 2147483647)) && (decide (0 ≤ wt) && decide (wt ≤ 2147483647)) && ((3 == 1 && job == 0) || ((3 == 2 || 3 == 3) && (tier == 0 && k == 0 && wt == 0)))) = false from by simp [hv])
      have hv' : (wt == 0) = false := by simpa using hv
      clear hv
      go_enter Tryd.func51, Tryd.ntmps51
      go_wp2_with fail
      go_ret
      exact ⟨by rw [← Hres.out, Fin.out] <;> rfl, below_alloc _ _⟩
    have hv' : (wt == 0) = true := by simpa using hv
    have Fin := hid (show (decide (client < 8) && (decide (0 ≤ k) && decide (k ≤ 2147483647)) && (decide (0 ≤ wt) && decide (wt ≤ 2147483647)) && ((3 == 1 && job == 0) || ((3 == 2 || 3 == 3) && (tier == 0 && k == 0 && wt == 0)))) = true from by simp [hn, ht, hz, hv])
    go_enter Tryd.func51, Tryd.ntmps51
    go_wp2_with fail
    go_ret
    exact ⟨by rw [← Hres.out, Fin.out] <;> rfl, below_alloc _ _⟩
  have e3 : ((kind : Int) == 3) = false := by simp; omega
  have Fin := hid (show (decide (client < 8) && (decide (0 ≤ k) && decide (k ≤ 2147483647)) && (decide (0 ≤ wt) && decide (wt ≤ 2147483647)) && ((kind == 1 && job == 0) || ((kind == 2 || kind == 3) && (tier == 0 && k == 0 && wt == 0)))) = false from by simp [hk1, hk2, hk3])
  clear hk1 hk2 hk3
  go_enter Tryd.func51, Tryd.ntmps51
  go_wp2_with fail
  go_ret
  exact ⟨by rw [← Hres.out, Fin.out] <;> rfl, below_alloc _ _⟩
end Go.Proofs.YtombndhjoaaaiaaDoor

/- The walks of layer 16: the document's request: memory. -/
namespace Go.Proofs.YtombndhjoaaaiaaDoor
open Go.RowKit Go.Quad _root_.Quad _root_.Quad.Ink

theorem x_last {t : TbD} (ht : t.Ok) (av ov : Value) {c : Nat} (hc : c < 8) {i : Nat} (hi : i < 6) : (xV t av ov)[4 + c * 6 + i]? = (repV (t.last.getD c repZ))[i]? := by
  have hl := ht.last
  unfold xV
  rw [List.getElem?_append_right (by simp; omega)]
  rw [show 4 + c * 6 + i - [Value.int .i64 t.nodes, .int .u32 (t.spent : Int), av, ov].length = c * 6 + i from by simp; omega]
  rw [flat_get repV 6 repV_length t.last c i (t.last.getD c repZ) (by rw [List.getD_eq_getElem?_getD, List.getElem?_eq_getElem (by omega)]; rfl) hi]
theorem x_set1 {t : TbD} (_hl : t.last.length = 8) (av ov : Value) {c : Nat} (hc : c < 8) {j : Nat} (hj : j < 6) (x x' : RepD) (v : Value) (hx : t.last[c]? = some x) (he : repV x' = (repV x).set j v) :
    (xV t av ov).set (4 + c * 6 + j) v = xV { t with last := t.last.set c x' } av ov := by
  unfold xV
  rw [List.set_append_right _ _ (by show 4 ≤ 4 + c * 6 + j; omega)]
  rw [show 4 + c * 6 + j - [Value.int .i64 t.nodes, .int .u32 (t.spent : Int), av, ov].length = c * 6 + j from by show 4 + c * 6 + j - 4 = _; omega]
  rw [flat_set repV 6 repV_length t.last c j x x' v hx hj he]
theorem x_set6 {t : TbD} (hl : t.last.length = 8) (av ov : Value) {c : Nat} (hc : c < 8) (r : RepD) :
    (((((((xV t av ov).set (4 + c * 6) (.int .u8 (r.client : Int))).set (4 + c * 6 + 1) (.int .u32 (r.seq : Int))).set (4 + c * 6 + 2) (.int .i64 r.e)).set (4 + c * 6 + 3) (.int .u32 (r.job : Int))).set (4 + c * 6 + 4) (.int .u8 (r.state : Int))).set (4 + c * 6 + 5) (.int .i64 r.credit)) = xV { t with last := t.last.set c r } av ov := by
  obtain ⟨x, hx⟩ : ∃ x, t.last[c]? = some x := ⟨_, List.getElem?_eq_getElem (by omega)⟩
  have hs : ∀ (l : List RepD) (y : RepD), l.length = 8 → (l.set c y)[c]? = some y := fun l y h => by rw [List.getElem?_set_self (by omega)]
  have e0 := x_set1 (t := t) (by simp [hl]) av ov hc (j := 0) (by omega) x (⟨r.client, x.seq, x.e, x.job, x.state, x.credit⟩ : RepD) (.int .u8 (r.client : Int)) hx rfl
  have e1 := x_set1 (t := ({ t with last := (t.last.set c (⟨r.client, x.seq, x.e, x.job, x.state, x.credit⟩ : RepD)) } : TbD)) (by simp [hl]) av ov hc (j := 1) (by omega) (⟨r.client, x.seq, x.e, x.job, x.state, x.credit⟩ : RepD) (⟨r.client, r.seq, x.e, x.job, x.state, x.credit⟩ : RepD) (.int .u32 (r.seq : Int)) (hs t.last (⟨r.client, x.seq, x.e, x.job, x.state, x.credit⟩ : RepD) (by simp [hl])) rfl
  have e2 := x_set1 (t := ({ t with last := ((t.last.set c (⟨r.client, x.seq, x.e, x.job, x.state, x.credit⟩ : RepD)).set c (⟨r.client, r.seq, x.e, x.job, x.state, x.credit⟩ : RepD)) } : TbD)) (by simp [hl]) av ov hc (j := 2) (by omega) (⟨r.client, r.seq, x.e, x.job, x.state, x.credit⟩ : RepD) (⟨r.client, r.seq, r.e, x.job, x.state, x.credit⟩ : RepD) (.int .i64 r.e) (hs (t.last.set c (⟨r.client, x.seq, x.e, x.job, x.state, x.credit⟩ : RepD)) (⟨r.client, r.seq, x.e, x.job, x.state, x.credit⟩ : RepD) (by simp [hl])) rfl
  have e3 := x_set1 (t := ({ t with last := (((t.last.set c (⟨r.client, x.seq, x.e, x.job, x.state, x.credit⟩ : RepD)).set c (⟨r.client, r.seq, x.e, x.job, x.state, x.credit⟩ : RepD)).set c (⟨r.client, r.seq, r.e, x.job, x.state, x.credit⟩ : RepD)) } : TbD)) (by simp [hl]) av ov hc (j := 3) (by omega) (⟨r.client, r.seq, r.e, x.job, x.state, x.credit⟩ : RepD) (⟨r.client, r.seq, r.e, r.job, x.state, x.credit⟩ : RepD) (.int .u32 (r.job : Int)) (hs ((t.last.set c (⟨r.client, x.seq, x.e, x.job, x.state, x.credit⟩ : RepD)).set c (⟨r.client, r.seq, x.e, x.job, x.state, x.credit⟩ : RepD)) (⟨r.client, r.seq, r.e, x.job, x.state, x.credit⟩ : RepD) (by simp [hl])) rfl
  have e4 := x_set1 (t := ({ t with last := ((((t.last.set c (⟨r.client, x.seq, x.e, x.job, x.state, x.credit⟩ : RepD)).set c (⟨r.client, r.seq, x.e, x.job, x.state, x.credit⟩ : RepD)).set c (⟨r.client, r.seq, r.e, x.job, x.state, x.credit⟩ : RepD)).set c (⟨r.client, r.seq, r.e, r.job, x.state, x.credit⟩ : RepD)) } : TbD)) (by simp [hl]) av ov hc (j := 4) (by omega) (⟨r.client, r.seq, r.e, r.job, x.state, x.credit⟩ : RepD) (⟨r.client, r.seq, r.e, r.job, r.state, x.credit⟩ : RepD) (.int .u8 (r.state : Int)) (hs (((t.last.set c (⟨r.client, x.seq, x.e, x.job, x.state, x.credit⟩ : RepD)).set c (⟨r.client, r.seq, x.e, x.job, x.state, x.credit⟩ : RepD)).set c (⟨r.client, r.seq, r.e, x.job, x.state, x.credit⟩ : RepD)) (⟨r.client, r.seq, r.e, r.job, x.state, x.credit⟩ : RepD) (by simp [hl])) rfl
  have e5 := x_set1 (t := ({ t with last := (((((t.last.set c (⟨r.client, x.seq, x.e, x.job, x.state, x.credit⟩ : RepD)).set c (⟨r.client, r.seq, x.e, x.job, x.state, x.credit⟩ : RepD)).set c (⟨r.client, r.seq, r.e, x.job, x.state, x.credit⟩ : RepD)).set c (⟨r.client, r.seq, r.e, r.job, x.state, x.credit⟩ : RepD)).set c (⟨r.client, r.seq, r.e, r.job, r.state, x.credit⟩ : RepD)) } : TbD)) (by simp [hl]) av ov hc (j := 5) (by omega) (⟨r.client, r.seq, r.e, r.job, r.state, x.credit⟩ : RepD) (⟨r.client, r.seq, r.e, r.job, r.state, r.credit⟩ : RepD) (.int .i64 r.credit) (hs ((((t.last.set c (⟨r.client, x.seq, x.e, x.job, x.state, x.credit⟩ : RepD)).set c (⟨r.client, r.seq, x.e, x.job, x.state, x.credit⟩ : RepD)).set c (⟨r.client, r.seq, r.e, x.job, x.state, x.credit⟩ : RepD)).set c (⟨r.client, r.seq, r.e, r.job, x.state, x.credit⟩ : RepD)) (⟨r.client, r.seq, r.e, r.job, r.state, x.credit⟩ : RepD) (by simp [hl])) rfl
  rw [Nat.add_zero] at e0
  rw [e0, e1, e2, e3, e4, e5]
  simp only [List.set_set]

theorem xs_away {w w7 : World} {B X : Nat} {av ov av' ov' : Value} {t : TbD} (H : IsX w B X av ov t) (hown : ∀ k ∈ xS X av' ov', k ∈ xS X av ov ∨ w7.heap.size ≤ k) {g : Nat} (h1 : w.heap.size ≤ g) (h2 : g < w7.heap.size) : ∀ k ∈ xS X av' ov', k ∉ [g] := by
  intro k hk hm
  simp at hm
  subst hm
  have hlt := H.lt
  rcases hown k hk with h | h
  · have := (hlt k h).2; omega
  · omega
/-- what a request's own blocks hold -/
structure RoBl (Z : Nat) (w : World) (q : ReqD) (zq zr zp : Nat) (R P : RepD) : Prop where
  kq : Blk w zq (reqV q) 34
  kr : Blk w zr (repV R) 30
  kp : Blk w zp (repV P) 30
  ge : Z ≤ zq
  l2 : zq < zr
  l3 : zr < zp
theorem RoBl.chg {Z : Nat} {w w' : World} {q : ReqD} {zq zr zp : Nat} {R P : RepD} {S : List Nat} (h : RoBl Z w q zq zr zp R P) (hc : Chg S w w') (hS : ∀ k ∈ S, k < Z) : RoBl Z w' q zq zr zp R P := by
  have h1 := h.ge; have h3 := h.l2; have h4 := h.l3
  exact ⟨h.kq.keep hc (fun m => by have := hS _ m; omega), h.kr.keep hc (fun m => by have := hS _ m; omega), h.kp.keep hc (fun m => by have := hS _ m; omega), h1, h3, h4⟩
theorem RoBl.below {Z : Nat} {w w' : World} {q : ReqD} {zq zr zp : Nat} {R P : RepD} (h : RoBl Z w q zq zr zp R P) (hb : Below w.heap.size w w') : RoBl Z w' q zq zr zp R P := h.chg (Chg.of_below [] hb) (by simp)
theorem RoBl.setP {Z : Nat} {w : World} {q : ReqD} {zq zr zp : Nat} {R P : RepD} (h : RoBl Z w q zq zr zp R P) {P' : RepD} (i : Nat) (v : Value) (e : (repV P).set i v = repV P') : RoBl Z (w.setCell ⟨zp, i, none⟩ v) q zq zr zp R P' := by
  have h1 := h.ge; have h3 := h.l2; have h4 := h.l3
  have hc := chg_setCell w zp i v
  exact ⟨h.kq.keep hc (by simp; omega), h.kr.keep hc (by simp; omega), e ▸ h.kp.set i v, h1, h3, h4⟩
theorem RoBl.geP {Z : Nat} {w : World} {q : ReqD} {zq zr zp : Nat} {R P : RepD} (h : RoBl Z w q zq zr zp R P) : Z ≤ zp := by
  have h1 := h.ge; have h3 := h.l2; have h4 := h.l3; omega
theorem RoBl.geR {Z : Nat} {w : World} {q : ReqD} {zq zr zp : Nat} {R P : RepD} (h : RoBl Z w q zq zr zp R P) : Z ≤ zr := by
  have h1 := h.ge; have h3 := h.l2; omega
/-- what was brought about within a call -/
structure DoX (w w' : World) (B X : Nat) (av ov av' ov' : Value) (t' : TbD) : Prop where
  isx : IsX w' B X av' ov' t'
  chg : Chg (xS X av ov) w w'
  own : ∀ k ∈ xS X av' ov', k ∈ xS X av ov ∨ w.heap.size ≤ k
theorem DoX.to {w w' : World} {B X : Nat} {av ov av' ov' : Value} {t' : TbD} {r : Value} (h : DoX w w' B X av ov av' ov' t') : XTo w B X av ov t' r (.returned r) w' := ⟨rfl, av', ov', h.isx, h.chg, h.own⟩
theorem DoX.same {w w' : World} {B X : Nat} {av ov : Value} {t : TbD} (h : IsX w B X av ov t) (hb : Below w.heap.size w w') : DoX w w' B X av ov av ov t := ⟨h.below hb, Chg.of_below _ hb, fun k hk => .inl hk⟩
theorem DoX.newer {w w' w'' : World} {B X : Nat} {av ov av' ov' : Value} {t' : TbD} (h : DoX w w' B X av ov av' ov' t') {S : List Nat} (hc : Chg S w' w'') (h1 : ∀ k ∈ S, w.heap.size ≤ k) (h2 : ∀ k ∈ xS X av' ov', k ∉ S) : DoX w w'' B X av ov av' ov' t' :=
  ⟨h.isx.chg hc h2, h.chg.newer hc h1, h.own⟩
theorem DoX.below {w w' w'' : World} {B X : Nat} {av ov av' ov' : Value} {t' : TbD} (h : DoX w w' B X av ov av' ov' t') (hb : Below w'.heap.size w' w'') : DoX w w'' B X av ov av' ov' t' :=
  ⟨h.isx.below hb, h.chg.trans (Chg.of_below _ hb), h.own⟩
/-- the table itself is changed -/
theorem IsX.keepRep {w w' : World} {B X : Nat} {av ov : Value} {t : TbD} (h : IsX w B X av ov t) {c : Nat} (hc : c < 8) (r : RepD) (hb : Below (set6 w X (4 + c * 6) (.int .u8 (r.client : Int)) (.int .u32 (r.seq : Int)) (.int .i64 r.e) (.int .u32 (r.job : Int)) (.int .u8 (r.state : Int)) (.int .i64 r.credit)).heap.size (set6 w X (4 + c * 6) (.int .u8 (r.client : Int)) (.int .u32 (r.seq : Int)) (.int .i64 r.e) (.int .u32 (r.job : Int)) (.int .u8 (r.state : Int)) (.int .i64 r.credit)) w') (hok : TbD.Ok { t with last := t.last.set c r }) :
    IsX w' B X av ov { t with last := t.last.set c r } ∧ Chg [X] w w' := by
  have hC := (chg_set6 w X (4 + c * 6) (.int .u8 (r.client : Int)) (.int .u32 (r.seq : Int)) (.int .i64 r.e) (.int .u32 (r.job : Int)) (.int .u8 (r.state : Int)) (.int .i64 r.credit)).trans (Chg.of_below [X] hb)
  have hK := (blk_set6 h.own (4 + c * 6) (.int .u8 (r.client : Int)) (.int .u32 (r.seq : Int)) (.int .i64 r.e) (.int .u32 (r.job : Int)) (.int .u8 (r.state : Int)) (.int .i64 r.credit)).below hb
  rw [x_set6 h.ok.last av ov hc r] at hK
  have hne := h.ne
  exact ⟨⟨hK, h.act.chg hC (by intro k hk hm; simp at hm; subst hm; exact hne.1 hk), h.over.chg hC (by intro k hk hm; simp at hm; subst hm; exact hne.2 hk), h.ge, hok⟩, hC⟩
theorem reqL_kind {q : ReqD} (h : (reqL q).2 = 0) : q.kind = 1 ∨ q.kind = 2 ∨ q.kind = 3 := by
  unfold reqL at h
  split at h
  · rename_i hf
    unfold formQ at hf
    simp at hf
    omega
  · exact absurd h (by show ¬ ((4 : Int) = 0); decide)
theorem reqL_form (q : ReqD) : ((reqL q).2 = 0 ∧ formQ q = true) ∨ ((reqL q).2 = 4 ∧ formQ q = false) := by
  unfold reqL
  cases h : formQ q
  · exact .inr ⟨rfl, rfl⟩
  · exact .inl ⟨rfl, rfl⟩
end Go.Proofs.YtombndhjoaaaiaaDoor

/- The walks of layer 16: the document's request; asked: that the table is whole. -/
namespace Go.Proofs.YtombndhjoaaaiaaDoor
open Go.RowKit Go.Quad _root_.Quad _root_.Quad.Ink

theorem run_u8_at (w : World) (g i : Nat) (v : Value) (h : w.cell? ⟨g, i, none⟩ = some v) : (Instr.loadAt 5 (.pointer (some ⟨g, i, none⟩))).run Tryd.prog w = .ok v w := by go_simp
theorem run_u32_at (w : World) (g i : Nat) (v : Value) (h : w.cell? ⟨g, i, none⟩ = some v) : (Instr.loadAt 28 (.pointer (some ⟨g, i, none⟩))).run Tryd.prog w = .ok v w := by go_simp
theorem run_int_at (w : World) (g i : Nat) (v : Value) (h : w.cell? ⟨g, i, none⟩ = some v) : (Instr.loadAt 3 (.pointer (some ⟨g, i, none⟩))).run Tryd.prog w = .ok v w := by go_simp
set_option maxRecDepth 100000 in
set_option maxHeartbeats 20000000 in
theorem rdo_calls (w : World) (B X : Nat) (av ov : Value) (t : TbD) (q : ReqD) (h : IsX w B X av ov t) (hq : q.Ok) :
    Calls Tryd.prog 24 #[.pointer (some ⟨X, 0, none⟩), .agg #[.int .u8 (q.client : Int), .int .u32 (q.seq : Int), .int .u8 (q.kind : Int), .int .u8 (q.tier : Int), .int .i64 q.k, .int .i64 q.w, .int .u32 (q.job : Int)]] w (XTo w B X av ov (doT t q).1 (doRes (doT t q).2)) := by
  obtain ⟨zq, hz⟩ : ∃ zq, w.heap.size = zq := ⟨_, rfl⟩
  have Zs := hid hz
  have H := hid h
  have HQ := hid hq
  go_enter Tryd.func24, Tryd.ntmps24
  go_upto_region 2 with (first | (refine wpListQ_alloc (o := ⟨some 4, _, _, _, _, _⟩) 30 rfl rfl zrep 6 info_rep ?_) | (refine wpListQ_alloc (o := ⟨some 6, _, _, _, _, _⟩) 30 rfl rfl zrep 6 info_rep ?_) | (refine wpListQ_store_new (o := ⟨none, _, 0, _, _, _⟩) rfl 30 (.tmp 6) (.tmp 16) rfl zrep (repV (repQ q)).toArray rfl rfl size_rep rfl (all_oneCell_toArray (repV_one _)) ?_))
  obtain ⟨zr, hzr⟩ : ∃ zr, zr = zq + 1 := ⟨_, rfl⟩
  obtain ⟨zp, hzp⟩ : ∃ zp, zp = zr + 1 := ⟨_, rfl⟩
  have HS := hid (show ((w.alloc (.cells #[.int .u8 (q.client : Int), .int .u32 (q.seq : Int), .int .u8 (q.kind : Int), .int .u8 (q.tier : Int), .int .i64 q.k, .int .i64 q.w, .int .u32 (q.job : Int)] 34)).alloc (.cells zrep 30)).heap.size = zp from by simp [hzp, hzr, hz])
  have D4 := hid (show RoBl w.heap.size (((w.alloc (.cells #[.int .u8 (q.client : Int), .int .u32 (q.seq : Int), .int .u8 (q.kind : Int), .int .u8 (q.tier : Int), .int .i64 q.k, .int .i64 q.w, .int .u32 (q.job : Int)] 34)).alloc (.cells zrep 30)).alloc (.cells (repV (repQ q)).toArray 30)) q zq zr zp repZ (repQ q) from by
    have k2 := blk_alloc w (reqV q) 34
    have b3 := below_alloc (w.alloc (.cells #[.int .u8 (q.client : Int), .int .u32 (q.seq : Int), .int .u8 (q.kind : Int), .int .u8 (q.tier : Int), .int .i64 q.k, .int .i64 q.w, .int .u32 (q.job : Int)] 34)) (.cells zrep 30)
    have k3 := blk_alloc (w.alloc (.cells #[.int .u8 (q.client : Int), .int .u32 (q.seq : Int), .int .u8 (q.kind : Int), .int .u8 (q.tier : Int), .int .i64 q.k, .int .i64 q.w, .int .u32 (q.job : Int)] 34)) (repV repZ) 30
    have b4 := below_alloc ((w.alloc (.cells #[.int .u8 (q.client : Int), .int .u32 (q.seq : Int), .int .u8 (q.kind : Int), .int .u8 (q.tier : Int), .int .i64 q.k, .int .i64 q.w, .int .u32 (q.job : Int)] 34)).alloc (.cells zrep 30)) (.cells (repV (repQ q)).toArray 30)
    have k4 := blk_alloc ((w.alloc (.cells #[.int .u8 (q.client : Int), .int .u32 (q.seq : Int), .int .u8 (q.kind : Int), .int .u8 (q.tier : Int), .int .i64 q.k, .int .i64 q.w, .int .u32 (q.job : Int)] 34)).alloc (.cells zrep 30)) (repV (repQ q)) 30
    rw [HS.out] at k4
    rw [show (w.alloc (.cells #[.int .u8 (q.client : Int), .int .u32 (q.seq : Int), .int .u8 (q.kind : Int), .int .u8 (q.tier : Int), .int .i64 q.k, .int .i64 q.w, .int .u32 (q.job : Int)] 34)).heap.size = zr from by simp [hzr, hz]] at k3
    rw [hz] at k2
    exact ⟨(k2.below b3).below b4, k3.below b4, k4, by omega, by omega, by omega⟩)
  have B4 := hid (show Below w.heap.size w (((w.alloc (.cells #[.int .u8 (q.client : Int), .int .u32 (q.seq : Int), .int .u8 (q.kind : Int), .int .u8 (q.tier : Int), .int .i64 q.k, .int .i64 q.w, .int .u32 (q.job : Int)] 34)).alloc (.cells zrep 30)).alloc (.cells (repV (repQ q)).toArray 30)) from by
    have b2 := below_alloc w (.cells #[.int .u8 (q.client : Int), .int .u32 (q.seq : Int), .int .u8 (q.kind : Int), .int .u8 (q.tier : Int), .int .i64 q.k, .int .i64 q.w, .int .u32 (q.job : Int)] 34)
    have b3 := below_alloc (w.alloc (.cells #[.int .u8 (q.client : Int), .int .u32 (q.seq : Int), .int .u8 (q.kind : Int), .int .u8 (q.tier : Int), .int .i64 q.k, .int .i64 q.w, .int .u32 (q.job : Int)] 34)) (.cells zrep 30)
    have b4 := below_alloc ((w.alloc (.cells #[.int .u8 (q.client : Int), .int .u32 (q.seq : Int), .int .u8 (q.kind : Int), .int .u8 (q.tier : Int), .int .i64 q.k, .int .i64 q.w, .int .u32 (q.job : Int)] 34)).alloc (.cells zrep 30)) (.cells (repV (repQ q)).toArray 30)
    have c3 := b2.trans (b3.mono b2.size)
    exact c3.trans (b4.mono c3.size))
  have AP := hid (show ∀ g ∈ xS X av ov, g ≠ zp from fun g hg => by have := (h.lt g hg).2; omega)
  have AR := hid (show ∀ g ∈ xS X av ov, g ≠ zr from fun g hg => by have := (h.lt g hg).2; omega)
  simp only [HS.out]
  rw [← hzr]
  clear hzr hzp h hz hq HS
  generalize (((w.alloc (.cells #[.int .u8 (q.client : Int), .int .u32 (q.seq : Int), .int .u8 (q.kind : Int), .int .u8 (q.tier : Int), .int .i64 q.k, .int .i64 q.w, .int .u32 (q.job : Int)] 34)).alloc (.cells zrep 30)).alloc (.cells (repV (repQ q)).toArray 30)) = w4 at D4 B4 ⊢
  have q0 := D4.out.kq.get 0 rfl
  have q1 := D4.out.kq.get 1 rfl
  have q2 := D4.out.kq.get 2 rfl
  have q3 := D4.out.kq.get 3 rfl
  have q4 := D4.out.kq.get 4 rfl
  have q5 := D4.out.kq.get 5 rfl
  have q6 := D4.out.kq.get 6 rfl
  go_upto_region 5 with fail
  have hR := hid (refFormRequest_calls q w4 HQ.out)
  have CALL := True.intro
  rcases reqL_form q with ⟨hf, hf2⟩ | ⟨hf, hf2⟩
  case inr =>
    have HD := hid (show doT t q = (t, { repQ q with e := 4 }, false) from by unfold doT; rw [if_pos (by rw [hf]; decide), hf])
    rw [hf2] at hR
    clear hf hf2
    go_upto_region 6 with (go_at_call 51; go_loud (refine hR.out.mono ?_; rintro e w5 ⟨rfl, hb5⟩; have D5 := hid (D4.out.below hb5); have B5 := hid (B4.out.trans (hb5.mono B4.out.size)); clear hb5))
    have X5 := hid (DoX.same H.out B5.out)
    have p2 := D5.out.kp.get 2 rfl
    have f2 := D5.out.kp.free 2
    go_upto_region 7 with fail
    have D8 := hid (D5.out.setP (P' := { repQ q with e := 4 }) 2 (.int .i64 4) rfl)
    have X8 := hid (X5.out.newer (chg_setCell w5 zp 2 (.int .i64 4)) (by intro g hg; simp at hg; subst hg; exact D5.out.geP) (by intro g hg hm; simp at hm; subst hm; exact AP.out g hg rfl))
    clear p2 f2
    generalize (w5.setCell ⟨zp, 2, none⟩ (.int .i64 4)) = w8 at D8 X8 ⊢
    repeat (first | (refine wpList_load_blk (o := ⟨some 25, _, _, _, _, _⟩) 30 (.tmp 6) rfl rfl zp (repV ({ repQ q with e := 4 })) 30 rfl D8.out.kp row_rep size_rep ?_) | (refine wpList_store_blk (o := ⟨none, _, 0, _, _, _⟩) 30 (.tmp 4) (.tmp 25) rfl rfl zr (repV repZ) (repV ({ repQ q with e := 4 })) 30 rfl rfl D8.out.kr rfl size_rep (repV_one _) ?_; intro w9 hZ9 hC9) | go_step)
    refine bodyPost_ret (v := .tuple #[.agg (repV ({ repQ q with e := 4 })).toArray, .bool false]) (results_blk2 (fn := Tryd.f24) (p := 4) (q := 5) (ty := 30) rfl _ zr (repV ({ repQ q with e := 4 })) 30 (.bool false) rfl rfl hZ9 row_rep size_rep) rfl ?_
    rw [HD.out]
    exact (X8.out.newer hC9 (by intro g hg; simp at hg; subst hg; exact D8.out.geR) (by intro g hg hm; simp at hm; subst hm; exact AR.out g hg rfl)).to

  have HC := hid (reqL_client hf)
  have HK := hid (reqL_kind hf)
  have HF := hid hf
  rw [hf2] at hR
  go_upto_region 8 with (go_at_call 51; go_loud (refine hR.out.mono ?_; rintro e w5 ⟨rfl, hb5⟩; have D5 := hid (D4.out.below hb5); have B5 := hid (B4.out.trans (hb5.mono B4.out.size)); clear hb5))
  clear hR D4 B4 hf hf2 q0 q1 q2 q3 q4 q5 q6
  have q0 := D5.out.kq.get 0 rfl
  have q1 := D5.out.kq.get 1 rfl
  have q2 := D5.out.kq.get 2 rfl
  have q3 := D5.out.kq.get 3 rfl
  have q4 := D5.out.kq.get 4 rfl
  have q5 := D5.out.kq.get 5 rfl
  have q6 := D5.out.kq.get 6 rfl
  by_cases hk3 : q.kind = 3
  · have g3 : ((q.kind : Int) == 3) = true := by simp; omega
    have HD := hid (show doT t q = (t, queryO (jobT t q.job) (repQ q) q.job, false) from by unfold doT; rw [if_neg (by rw [HF.out]; decide), if_pos hk3, queryT_O])
    clear hk3
    have hJ := hid (rjob_calls w5 B X av ov t q.job (H.out.below B5.out) HQ.out.job)
    have hjid := fun j => @jobT_some t q.job j
    obtain ⟨o, ho⟩ : ∃ o, jobT t q.job = o := ⟨_, rfl⟩
    rw [ho] at hJ HD hjid
    clear ho
    go_upto_region 10 with (first | (go_at_call 52; go_loud (refine hJ.out.mono ?_; rintro e w6 ⟨rfl, hb6⟩; have D6 := hid (D5.out.below hb6); have B6 := hid (B5.out.trans (hb6.mono B5.out.size)); clear hb6; simp only [jobRes])) | (refine wpListQ_alloc (o := ⟨some 7, _, _, _, _, _⟩) 37 rfl rfl zjob 6 info_job ?_) | (refine wpListQ_store_new (o := ⟨none, _, 0, _, _, _⟩) rfl 37 (.tmp 7) (.tmp 34) rfl zjob (jobV (o.getD jobZ)).toArray rfl rfl size_job rfl (all_oneCell_toArray (jobV_one _)) ?_))
    obtain ⟨z7, hz7⟩ : ∃ z7, w6.heap.size = z7 := ⟨_, rfl⟩
    have b7 := below_alloc w6 (.cells (jobV (o.getD jobZ)).toArray 37)
    have K7 := hid (show Blk (w6.alloc (.cells (jobV (o.getD jobZ)).toArray 37)) z7 (jobV (o.getD jobZ)) 37 from by rw [← hz7]; exact blk_alloc w6 (jobV (o.getD jobZ)) 37)
    have D7 := hid (D6.out.below b7)
    have B7 := hid (B6.out.trans (b7.mono B6.out.size))
    rw [hz7]
    generalize (w6.alloc (.cells (jobV (o.getD jobZ)).toArray 37)) = w7 at K7 D7 B7 ⊢
    have X7 := hid (DoX.same H.out B7.out)
    have zne : z7 ≠ zp := by have := D6.out.kp.lt; omega
    clear b7 hJ D6 B6 q0 q1 q2 q3 q4 q5 q6
    cases o with
    | none =>
      simp only [Option.getD_none, Option.isSome_none] at K7 ⊢
      go_upto_region 11 with fail
      have p2 := D7.out.kp.get 2 rfl
      have f2 := D7.out.kp.free 2
      go_upto_region 12 with fail
      have D8 := hid (D7.out.setP (P' := { repQ q with e := 6 }) 2 (.int .i64 6) rfl)
      have X8 := hid (X7.out.newer (chg_setCell w7 zp 2 (.int .i64 6)) (by intro g hg; simp at hg; subst hg; exact D7.out.geP) (by intro g hg hm; simp at hm; subst hm; exact AP.out g hg rfl))
      clear p2 f2
      generalize (w7.setCell ⟨zp, 2, none⟩ (.int .i64 6)) = w8 at D8 X8 ⊢
      repeat (first | (refine wpList_load_blk (o := ⟨some 39, _, _, _, _, _⟩) 30 (.tmp 6) rfl rfl zp (repV ({ repQ q with e := 6 })) 30 rfl D8.out.kp row_rep size_rep ?_) | (refine wpList_store_blk (o := ⟨none, _, 0, _, _, _⟩) 30 (.tmp 4) (.tmp 39) rfl rfl zr (repV repZ) (repV ({ repQ q with e := 6 })) 30 rfl rfl D8.out.kr rfl size_rep (repV_one _) ?_; intro w9 hZ9 hC9) | go_step)
      refine bodyPost_ret (v := .tuple #[.agg (repV ({ repQ q with e := 6 })).toArray, .bool false]) (results_blk2 (fn := Tryd.f24) (p := 4) (q := 5) (ty := 30) rfl _ zr (repV ({ repQ q with e := 6 })) 30 (.bool false) rfl rfl hZ9 row_rep size_rep) rfl ?_
      rw [HD.out]
      exact (X8.out.newer hC9 (by intro g hg; simp at hg; subst hg; exact D8.out.geR) (by intro g hg hm; simp at hm; subst hm; exact AR.out g hg rfl)).to

    | some j =>
      simp only [Option.getD_some, Option.isSome_some] at K7 ⊢
      have hid2 := (hjid j rfl).2
      have c3 := D7.out.kp.get 3 rfl
      have c4 := D7.out.kp.get 4 rfl
      have c5 := D7.out.kp.get 5 rfl
      have f3 := D7.out.kp.free 3
      have f4 := D7.out.kp.free 4
      have f5 := D7.out.kp.free 5
      have j0 := K7.out.get 0 rfl
      have j4 := K7.out.get 4 rfl
      have j5 := K7.out.get 5 rfl
      rw [hid2] at j0
      go_upto_region 13 with fail
      go_region
      have X8 := hid ((((X7.out.newer (chg_setCell w7 zp 3 (.int .u32 (q.job : Int))) (by intro g hg; simp at hg; subst hg; exact D7.out.geP) (by intro g hg hm; simp at hm; subst hm; exact AP.out g hg rfl)).newer (chg_setCell _ zp 4 (.int .u8 (j.state : Int))) (by intro g hg; simp at hg; subst hg; exact D7.out.geP) (by intro g hg hm; simp at hm; subst hm; exact AP.out g hg rfl)).newer (chg_setCell _ zp 5 (.int .i64 j.credit)) (by intro g hg; simp at hg; subst hg; exact D7.out.geP) (by intro g hg hm; simp at hm; subst hm; exact AP.out g hg rfl)).below (below_drew _))
      have D8 := hid ((((D7.out.setP (P' := { repQ q with job := q.job }) 3 (.int .u32 (q.job : Int)) rfl).setP (P' := { repQ q with job := q.job, state := j.state }) 4 (.int .u8 (j.state : Int)) rfl).setP (P' := { repQ q with job := q.job, state := j.state, credit := j.credit }) 5 (.int .i64 j.credit) rfl).below (below_drew _))
      clear c3 c4 c5 f3 f4 f5 j0 j4 j5
      generalize (((w7.setCell ⟨zp, 3, none⟩ (.int .u32 (q.job : Int))).setCell ⟨zp, 4, none⟩ (.int .u8 (j.state : Int))).setCell ⟨zp, 5, none⟩ (.int .i64 j.credit)).drew = w8 at D8 X8 ⊢
      go_upto_region 14 with fail
      repeat (first | (refine wpList_load_blk (o := ⟨some 49, _, _, _, _, _⟩) 30 (.tmp 6) rfl rfl zp (repV ({ repQ q with job := q.job, state := j.state, credit := j.credit })) 30 rfl D8.out.kp row_rep size_rep ?_) | (refine wpList_store_blk (o := ⟨none, _, 0, _, _, _⟩) 30 (.tmp 4) (.tmp 49) rfl rfl zr (repV repZ) (repV ({ repQ q with job := q.job, state := j.state, credit := j.credit })) 30 rfl rfl D8.out.kr rfl size_rep (repV_one _) ?_; intro w9 hZ9 hC9) | go_step)
      refine bodyPost_ret (v := .tuple #[.agg (repV ({ repQ q with job := q.job, state := j.state, credit := j.credit })).toArray, .bool false]) (results_blk2 (fn := Tryd.f24) (p := 4) (q := 5) (ty := 30) rfl _ zr (repV ({ repQ q with job := q.job, state := j.state, credit := j.credit })) 30 (.bool false) rfl rfl hZ9 row_rep size_rep) rfl ?_
      rw [HD.out]
      exact (X8.out.newer hC9 (by intro g hg; simp at hg; subst hg; exact D8.out.geR) (by intro g hg hm; simp at hm; subst hm; exact AR.out g hg rfl)).to

  have g3 : ((q.kind : Int) == 3) = false := by simp; omega
  obtain ⟨L, hL⟩ : ∃ L, t.last.getD q.client repZ = L := ⟨_, rfl⟩
  have T5 := hid (H.out.below B5.out)
  have hc' : (q.client : Int) < 8 := by have := HC.out; omega
  have Xl := T5.out.own.lt
  have Ql := D5.out.kq.lt
  have l0 := T5.out.own.get (4 + q.client * 6 + 0) (by rw [x_last H.out.ok av ov HC.out (by omega), hL]; rfl)
  have l1 := T5.out.own.get (4 + q.client * 6 + 1) (by rw [x_last H.out.ok av ov HC.out (by omega), hL]; rfl)
  have l2 := T5.out.own.get (4 + q.client * 6 + 2) (by rw [x_last H.out.ok av ov HC.out (by omega), hL]; rfl)
  have l3 := T5.out.own.get (4 + q.client * 6 + 3) (by rw [x_last H.out.ok av ov HC.out (by omega), hL]; rfl)
  have l4 := T5.out.own.get (4 + q.client * 6 + 4) (by rw [x_last H.out.ok av ov HC.out (by omega), hL]; rfl)
  have l5 := T5.out.own.get (4 + q.client * 6 + 5) (by rw [x_last H.out.ok av ov HC.out (by omega), hL]; rfl)
  rw [Nat.add_zero] at l0
  go_upto_region 15 with fail
  go_region
  have b9 := below_alloc w5 (.cells #[.int .u8 (L.client : Int), .int .u32 (L.seq : Int), .int .i64 L.e, .int .u32 (L.job : Int), .int .u8 (L.state : Int), .int .i64 L.credit] 30)
  have K9 := hid ((blk_alloc w5 (repV L) 30).below (below_drew _))
  have D9 := hid ((D5.out.below b9).below (below_drew _))
  have B9 := hid (B5.out.trans ((b9.trans ((below_drew _).mono b9.size)).mono B5.out.size))
  have LO := hid (show L.Ok from by rw [← hL]; rw [List.getD_eq_getElem?_getD, List.getElem?_eq_getElem (by rw [H.out.ok.last]; exact HC.out)]; exact H.out.ok.lok _ (List.getElem_mem _))
  obtain ⟨z9, hz9⟩ : ∃ z9, w5.heap.size = z9 := ⟨_, rfl⟩
  have zne : z9 ≠ zp := by have := D5.out.kp.lt; omega
  rw [hz9] at K9 ⊢
  have K9' := hid (show Blk (w5.alloc (.cells #[.int .u8 (L.client : Int), .int .u32 (L.seq : Int), .int .i64 L.e, .int .u32 (L.job : Int), .int .u8 (L.state : Int), .int .i64 L.credit] 30)).drew z9 (repV L) 30 from K9.out)
  have D9' := hid (show RoBl w.heap.size (w5.alloc (.cells #[.int .u8 (L.client : Int), .int .u32 (L.seq : Int), .int .i64 L.e, .int .u32 (L.job : Int), .int .u8 (L.state : Int), .int .i64 L.credit] 30)).drew q zq zr zp repZ (repQ q) from D9.out)
  have B9' := hid (show Below w.heap.size w (w5.alloc (.cells #[.int .u8 (L.client : Int), .int .u32 (L.seq : Int), .int .i64 L.e, .int .u32 (L.job : Int), .int .u8 (L.state : Int), .int .i64 L.credit] 30)).drew from B9.out)
  clear K9 D9 B9 b9 hz9 T5 Xl Ql D5 B5 q0 q1 q2 q3 q4 q5 q6 l0 l1 l2 l3 l4 l5
  generalize (w5.alloc (.cells #[.int .u8 (L.client : Int), .int .u32 (L.seq : Int), .int .i64 L.e, .int .u32 (L.job : Int), .int .u8 (L.state : Int), .int .i64 L.credit] 30)).drew = w9 at K9' D9' B9' ⊢
  have K9 := hid K9'.out
  have D9 := hid D9'.out
  have B9 := hid B9'.out
  have X9 := hid (DoX.same H.out B9.out)
  clear K9' D9' B9'
  have HLL := hid hL
  have HK3 := hid hk3
  clear hL hk3
  have q0 := D9.out.kq.get 0 rfl
  have q1 := D9.out.kq.get 1 rfl
  have q2 := D9.out.kq.get 2 rfl
  have q3 := D9.out.kq.get 3 rfl
  have q4 := D9.out.kq.get 4 rfl
  have q5 := D9.out.kq.get 5 rfl
  have q6 := D9.out.kq.get 6 rfl
  have n1 := K9.out.get 1 rfl
  have p2 := D9.out.kp.get 2 rfl
  by_cases s0 : q.seq = 0
  · have e0 : ((q.seq : Int) == 0) = true := by simp; omega
    have HO := hid (show orderT t q = 1 from by unfold orderT; rw [if_pos s0])
    clear s0
    have HD := hid (show doT t q = (t, { repQ q with e := 1 }, false) from by unfold doT; rw [if_neg (by rw [HF.out]; decide), if_neg HK3.out, if_pos (by rw [HO.out]; decide), HO.out])
    have f2 := D9.out.kp.free 2
    go_upto_region 24 with fail
    have D8 := hid (D9.out.setP (P' := { repQ q with e := 1 }) 2 (.int .i64 1) rfl)
    have X8 := hid (X9.out.newer (chg_setCell w9 zp 2 (.int .i64 1)) (by intro g hg; simp at hg; subst hg; exact D9.out.geP) (by intro g hg hm; simp at hm; subst hm; exact AP.out g hg rfl))
    clear p2 f2
    generalize (w9.setCell ⟨zp, 2, none⟩ (.int .i64 1)) = w8 at D8 X8 ⊢
    clear q0 q1 q2 q3 q4 q5 q6 n1
    have p2 : w8.cell? ⟨zp, 2, none⟩ = some (.int .i64 1) := D8.out.kp.get 2 rfl
    go_upto_region 25 with fail
    clear p2
    repeat (first | (refine wpList_load_blk (o := ⟨some 89, _, _, _, _, _⟩) 30 (.tmp 6) rfl rfl zp (repV ({ repQ q with e := 1 })) 30 rfl D8.out.kp row_rep size_rep ?_) | (refine wpList_store_blk (o := ⟨none, _, 0, _, _, _⟩) 30 (.tmp 4) (.tmp 89) rfl rfl zr (repV repZ) (repV ({ repQ q with e := 1 })) 30 rfl rfl D8.out.kr rfl size_rep (repV_one _) ?_; intro w9 hZ9 hC9) | go_step)
    refine bodyPost_ret (v := .tuple #[.agg (repV ({ repQ q with e := 1 })).toArray, .bool false]) (results_blk2 (fn := Tryd.f24) (p := 4) (q := 5) (ty := 30) rfl _ zr (repV ({ repQ q with e := 1 })) 30 (.bool false) rfl rfl hZ9 row_rep size_rep) rfl ?_
    rw [HD.out]
    exact (X8.out.newer hC9 (by intro g hg; simp at hg; subst hg; exact D8.out.geR) (by intro g hg hm; simp at hm; subst hm; exact AR.out g hg rfl)).to
  have e0 : ((q.seq : Int) == 0) = false := by simp; omega
  by_cases s1 : q.seq < L.seq
  · have e1 : (q.seq : Int) < (L.seq : Int) := by omega
    have HO := hid (show orderT t q = 12 from by unfold orderT; rw [HLL.out, if_neg s0, if_pos s1])
    clear s0 s1
    have HD := hid (show doT t q = (t, { repQ q with e := 12 }, false) from by unfold doT; rw [if_neg (by rw [HF.out]; decide), if_neg HK3.out, if_pos (by rw [HO.out]; decide), HO.out])
    have f2 := D9.out.kp.free 2
    go_upto_region 24 with fail
    have D8 := hid (D9.out.setP (P' := { repQ q with e := 12 }) 2 (.int .i64 12) rfl)
    have X8 := hid (X9.out.newer (chg_setCell w9 zp 2 (.int .i64 12)) (by intro g hg; simp at hg; subst hg; exact D9.out.geP) (by intro g hg hm; simp at hm; subst hm; exact AP.out g hg rfl))
    clear p2 f2
    generalize (w9.setCell ⟨zp, 2, none⟩ (.int .i64 12)) = w8 at D8 X8 ⊢
    clear q0 q1 q2 q3 q4 q5 q6 n1
    have p2 : w8.cell? ⟨zp, 2, none⟩ = some (.int .i64 12) := D8.out.kp.get 2 rfl
    go_upto_region 25 with fail
    clear p2
    repeat (first | (refine wpList_load_blk (o := ⟨some 89, _, _, _, _, _⟩) 30 (.tmp 6) rfl rfl zp (repV ({ repQ q with e := 12 })) 30 rfl D8.out.kp row_rep size_rep ?_) | (refine wpList_store_blk (o := ⟨none, _, 0, _, _, _⟩) 30 (.tmp 4) (.tmp 89) rfl rfl zr (repV repZ) (repV ({ repQ q with e := 12 })) 30 rfl rfl D8.out.kr rfl size_rep (repV_one _) ?_; intro w9 hZ9 hC9) | go_step)
    refine bodyPost_ret (v := .tuple #[.agg (repV ({ repQ q with e := 12 })).toArray, .bool false]) (results_blk2 (fn := Tryd.f24) (p := 4) (q := 5) (ty := 30) rfl _ zr (repV ({ repQ q with e := 12 })) 30 (.bool false) rfl rfl hZ9 row_rep size_rep) rfl ?_
    rw [HD.out]
    exact (X8.out.newer hC9 (by intro g hg; simp at hg; subst hg; exact D8.out.geR) (by intro g hg hm; simp at hm; subst hm; exact AR.out g hg rfl)).to
  have e1 : ¬ ((q.seq : Int) < (L.seq : Int)) := by omega
  by_cases s2 : q.seq = L.seq
  · have e2 : ((q.seq : Int) == (L.seq : Int)) = true := by simp; omega
    have HD := hid (show doT t q = (t, L, false) from by unfold doT; rw [if_neg (by rw [HF.out]; decide), if_neg HK3.out, if_neg (by unfold orderT; rw [HLL.out, if_neg s0, if_neg s1, if_neg (by omega)]; decide), if_pos (by rw [HLL.out]; exact s2), HLL.out])
    clear s0 s1 s2
    go_upto_region 21 with fail
    clear q0 q1 q2 q3 q4 q5 q6 n1 p2
    repeat (first | (refine wpList_load_blk (o := ⟨some 75, _, _, _, _, _⟩) 30 (.tmp 9) rfl rfl z9 (repV L) 30 rfl K9.out row_rep size_rep ?_) | (refine wpList_store_blk (o := ⟨none, _, 0, _, _, _⟩) 30 (.tmp 4) (.tmp 75) rfl rfl zr (repV repZ) (repV L) 30 rfl rfl D9.out.kr rfl size_rep (repV_one _) ?_; intro w9 hZ9 hC9) | go_step)
    refine bodyPost_ret (v := .tuple #[.agg (repV (L)).toArray, .bool false]) (results_blk2 (fn := Tryd.f24) (p := 4) (q := 5) (ty := 30) rfl _ zr (repV (L)) 30 (.bool false) rfl rfl hZ9 row_rep size_rep) rfl ?_
    rw [HD.out]
    exact (X9.out.newer hC9 (by intro g hg; simp at hg; subst hg; exact D9.out.geR) (by intro g hg hm; simp at hm; subst hm; exact AR.out g hg rfl)).to
  have e2 : ((q.seq : Int) == (L.seq : Int)) = false := by simp; omega
  have lseq : (L.seq : Int) ≤ 4294967295 := by have := LO.out.seq; omega
  have lqs : (q.seq : Int) ≤ 4294967295 := by have := HQ.out.seq; omega
  by_cases s3 : q.seq = L.seq + 1
  case neg =>
    have e3 : ((q.seq : Int) == (L.seq : Int) + 1) = false := by simp; omega
    have HO := hid (show orderT t q = 11 from by unfold orderT; rw [HLL.out, if_neg s0, if_neg s1, if_pos (by omega)])
    clear s0 s1 s2 s3
    have HD := hid (show doT t q = (t, { repQ q with e := 11 }, false) from by unfold doT; rw [if_neg (by rw [HF.out]; decide), if_neg HK3.out, if_pos (by rw [HO.out]; decide), HO.out])
    have f2 := D9.out.kp.free 2
    go_upto_region 24 with fail
    have D8 := hid (D9.out.setP (P' := { repQ q with e := 11 }) 2 (.int .i64 11) rfl)
    have X8 := hid (X9.out.newer (chg_setCell w9 zp 2 (.int .i64 11)) (by intro g hg; simp at hg; subst hg; exact D9.out.geP) (by intro g hg hm; simp at hm; subst hm; exact AP.out g hg rfl))
    clear p2 f2
    generalize (w9.setCell ⟨zp, 2, none⟩ (.int .i64 11)) = w8 at D8 X8 ⊢
    clear q0 q1 q2 q3 q4 q5 q6 n1
    have p2 : w8.cell? ⟨zp, 2, none⟩ = some (.int .i64 11) := D8.out.kp.get 2 rfl
    go_upto_region 25 with fail
    clear p2
    repeat (first | (refine wpList_load_blk (o := ⟨some 89, _, _, _, _, _⟩) 30 (.tmp 6) rfl rfl zp (repV ({ repQ q with e := 11 })) 30 rfl D8.out.kp row_rep size_rep ?_) | (refine wpList_store_blk (o := ⟨none, _, 0, _, _, _⟩) 30 (.tmp 4) (.tmp 89) rfl rfl zr (repV repZ) (repV ({ repQ q with e := 11 })) 30 rfl rfl D8.out.kr rfl size_rep (repV_one _) ?_; intro w9 hZ9 hC9) | go_step)
    refine bodyPost_ret (v := .tuple #[.agg (repV ({ repQ q with e := 11 })).toArray, .bool false]) (results_blk2 (fn := Tryd.f24) (p := 4) (q := 5) (ty := 30) rfl _ zr (repV ({ repQ q with e := 11 })) 30 (.bool false) rfl rfl hZ9 row_rep size_rep) rfl ?_
    rw [HD.out]
    exact (X8.out.newer hC9 (by intro g hg; simp at hg; subst hg; exact D8.out.geR) (by intro g hg hm; simp at hm; subst hm; exact AR.out g hg rfl)).to
  have e3 : ((q.seq : Int) == (L.seq : Int) + 1) = true := by simp; omega
  have HA := hid (show doT t q = if (actT t q).2.2 = 0 then ({ (actT t q).1 with last := t.last.set q.client { repQ q with job := (actT t q).2.1, e := 0 } }, { repQ q with job := (actT t q).2.1, e := 0 }, true) else ((actT t q).1, { repQ q with job := (actT t q).2.1, e := (actT t q).2.2 }, false) from by unfold doT; rw [if_neg (by rw [HF.out]; decide), if_neg HK3.out, if_neg (by unfold orderT; rw [HLL.out, if_neg s0, if_neg s1, if_neg (by omega)]; decide), if_neg (by rw [HLL.out]; exact s2)])
  clear s0 s1 s2 s3
  go_upto_region 26 with fail
  clear n1 e0 e1 e2 e3 lseq lqs K9 LO HLL zne
  rcases HK.out with k1 | k2 | k3
  case inr.inr => exact absurd k3 HK3.out
  case inr.inl =>
    have g1 : ((q.kind : Int) == 1) = false := by simp; omega
    have hact : actT t q = cancelT t q.job := if_pos k2
    have HSUB := hid (show actT t q = if (getT t q.job).2 ≠ 0 then (t, 0, (getT t q.job).2) else (endT t (getT t q.job).1 5, q.job, 0) from hact)
    clear hact HK HK3 k2
    have HG := hid (rget_calls w9 B X av ov t q.job X9.out.isx HQ.out.job)
    obtain ⟨hg1, hg2⟩ := getI_getT H.out.ok q.job
    obtain ⟨⟨j, ej⟩, hg⟩ : ∃ r, getT t q.job = r := ⟨_, rfl⟩
    obtain ⟨⟨iv, ie⟩, hi⟩ : ∃ r, getI t q.job = r := ⟨_, rfl⟩
    have hrg := getT_rng H.out.ok (id := q.job)
    have hgz := getT_zero H.out.ok (id := q.job)
    have E1 : getI t q.job = (iv, ie) := hi
    rw [hg] at hg1 hg2 hrg hgz HSUB
    rw [hi] at hg1 hg2
    dsimp only at hg1 hg2 hrg hgz HSUB
    subst hg1
    go_upto_region 37 with (go_at_call 53; go_loud (refine HG.out.mono ?_; rintro e w1 ⟨rfl, hb1⟩; have B1 := hid hb1; clear hb1; simp only [E1]))
    have D1 := hid (D9.out.below B1.out)
    have X1 := hid (X9.out.below B1.out)
    clear p2 q0 q1 q2 q3 q4 q5 q6 HG
    have p2 := D1.out.kp.get 2 rfl
    by_cases h0 : ie = 0
    case neg =>
      have h0' : (ie == 0) = false := by simpa using h0
      have HD := hid (show doT t q = (t, ⟨q.client, q.seq, ie, 0, 0, 0⟩, false) from by rw [HA.out, show actT t q = (t, 0, ie) from by rw [HSUB.out, if_pos h0], if_neg (show ¬ (ie = 0) from h0)]; rfl)
      clear hg2 hrg hgz h0
      have f2 := D1.out.kp.free 2
      go_upto_region 38 with fail
      have D8 := hid (D1.out.setP (P' := { repQ q with e := ie }) 2 (.int .i64 ie) rfl)
      have X8 := hid (X1.out.newer (chg_setCell w1 zp 2 (.int .i64 ie)) (by intro g hg; simp at hg; subst hg; exact D1.out.geP) (by intro g hg hm; simp at hm; subst hm; exact AP.out g hg rfl))
      clear p2 f2
      generalize (w1.setCell ⟨zp, 2, none⟩ (.int .i64 ie)) = w8 at D8 X8 ⊢
      have p2 : w8.cell? ⟨zp, 2, none⟩ = some (.int .i64 (ie)) := D8.out.kp.get 2 rfl
      go_upto_region 43 with fail
      clear p2
      have AR2 := AR.out
      have p0 : w8.cell? ⟨zp, 0, none⟩ = some (.int .u8 (q.client : Int)) := D8.out.kp.get 0 rfl
      have p1 : w8.cell? ⟨zp, 1, none⟩ = some (.int .u32 (q.seq : Int)) := D8.out.kp.get 1 rfl
      have p2 : w8.cell? ⟨zp, 2, none⟩ = some (.int .i64 (ie)) := D8.out.kp.get 2 rfl
      have p3 : w8.cell? ⟨zp, 3, none⟩ = some (.int .u32 (0 : Int)) := D8.out.kp.get 3 rfl
      have p4 : w8.cell? ⟨zp, 4, none⟩ = some (.int .u8 0) := D8.out.kp.get 4 rfl
      have p5 : w8.cell? ⟨zp, 5, none⟩ = some (.int .i64 0) := D8.out.kp.get 5 rfl
      have r0 := D8.out.kr.get 0 rfl
      have fr0 := D8.out.kr.free 0
      have r1 := D8.out.kr.get 1 rfl
      have fr1 := D8.out.kr.free 1
      have r2 := D8.out.kr.get 2 rfl
      have fr2 := D8.out.kr.free 2
      have r3 := D8.out.kr.get 3 rfl
      have fr3 := D8.out.kr.free 3
      have r4 := D8.out.kr.get 4 rfl
      have fr4 := D8.out.kr.free 4
      have r5 := D8.out.kr.get 5 rfl
      have fr5 := D8.out.kr.free 5
      have zl := D8.out.kr.lt
      have zl2 := D8.out.kp.lt
      have zn1 : zr ≠ zp := Nat.ne_of_lt D8.out.l3
      have zn2 : zp ≠ zr := zn1.symm
      go_region
      have hC11 := hid ((chg_set6 w8 zr 0 (.int .u8 (q.client : Int)) (.int .u32 (q.seq : Int)) (.int .i64 (ie)) (.int .u32 (0 : Int)) (.int .u8 0) (.int .i64 0)).trans (Chg.of_below [zr] (below_drew _)))
      have hZ11 := hid (show Blk (set6 w8 zr 0 (.int .u8 (q.client : Int)) (.int .u32 (q.seq : Int)) (.int .i64 (ie)) (.int .u32 (0 : Int)) (.int .u8 0) (.int .i64 0)).drew zr (repV (⟨q.client, q.seq, ie, 0, 0, 0⟩ : RepD)) 30 from (blk_set6 D8.out.kr 0 _ _ _ _ _ _).below (below_drew _))
      unfold set6 at hZ11 hC11
      simp only [Nat.zero_add] at hZ11 hC11
      generalize ((((((w8.setCell ⟨zr, 0, none⟩ (.int .u8 (q.client : Int))).setCell ⟨zr, 1, none⟩ (.int .u32 (q.seq : Int))).setCell ⟨zr, 2, none⟩ (.int .i64 (ie))).setCell ⟨zr, 3, none⟩ (.int .u32 (0 : Int))).setCell ⟨zr, 4, none⟩ (.int .u8 0)).setCell ⟨zr, 5, none⟩ (.int .i64 0)).drew = w11 at hZ11 hC11 ⊢
      clear p0 p1 p2 p3 p4 p5 r0 r1 r2 r3 r4 r5 fr0 fr1 fr2 fr3 fr4 fr5 zl zl2 zn1 zn2
      repeat go_step
      refine bodyPost_ret (v := .tuple #[.agg (repV (⟨q.client, q.seq, ie, 0, 0, 0⟩ : RepD)).toArray, .bool false]) (results_blk2 (fn := Tryd.f24) (p := 4) (q := 5) (ty := 30) rfl _ zr (repV (⟨q.client, q.seq, ie, 0, 0, 0⟩ : RepD)) 30 (.bool false) rfl rfl hZ11.out row_rep size_rep) rfl ?_
      rw [HD.out]
      exact (X8.out.newer hC11.out (by intro g hg; simp at hg; subst hg; exact D8.out.geR) (by intro g hg hm; simp at hm; subst hm; exact AR2 g hg rfl)).to
    subst h0
    obtain ⟨k, hk1, hk2, hk3⟩ := hg2 rfl
    subst hk1
    have HR := hid (hrg rfl)
    have HZ := hid (hgz rfl)
    have HK := hid hk2
    have HJ := hid hk3
    have HACT := hid (show actT t q = (endT t j 5, q.job, 0) from by rw [HSUB.out, if_neg (by decide)])
    have FEW := hid H.out.ok.few
    have kl : (k : Int) < (t.active.length : Int) := by omega
    clear hg2 hrg hgz
    have f2 := D1.out.kp.free 2
    go_upto_region 38 with fail
    have D8 := hid (D1.out.setP (P' := { repQ q with e := 0 }) 2 (.int .i64 0) rfl)
    have X8 := hid (X1.out.newer (chg_setCell w1 zp 2 (.int .i64 0)) (by intro g hg; simp at hg; subst hg; exact D1.out.geP) (by intro g hg hm; simp at hm; subst hm; exact AP.out g hg rfl))
    clear p2 f2
    generalize (w1.setCell ⟨zp, 2, none⟩ (.int .i64 0)) = w8 at D8 X8 ⊢
    clear D1 X1 D9 X9
    obtain ⟨b1, o1, c1, hav, _, _, hcells, _⟩ := X8.out.isx.act.at hk2 hk3
    subst hav
    have x2 := X8.out.isx.own.get 2 rfl
    have cw := (hcells 5 _ rfl).1
    clear hcells
    have HE := hid (rend_calls w8 B X _ ov t k j 5 j.credit X8.out.isx HK.out HJ.out (by have := HR.out; omega) (.inr rfl))
    go_upto_region 40 with (go_at_call 54; go_must (refine HE.out.mono ?_; rintro e w2 hx; obtain ⟨rfl, hx⟩ := hx; have X2x := hid hx; clear hx))
    clear x2 cw HE
    obtain ⟨av', ov', hI2, hC2, hO2⟩ := X2x.out
    obtain ⟨t1, ht1⟩ : ∃ t1 : TbD, t1 = endT t j 5 := ⟨_, rfl⟩
    have HL1 := hid (show t1.last = t.last from by rw [ht1]; rfl)
    have X2 := hid (show DoX w w2 B X _ ov av' ov' t1 from ⟨by rw [ht1]; exact hI2, X8.out.chg.trans hC2, fun g hg => (hO2 g hg).imp (fun x => x) fun h => Nat.le_trans X8.out.chg.size h⟩)
    have AP1 := hid (show ∀ g ∈ xS X av' ov', g ≠ zp from fun g hg e => by
      rcases hO2 g hg with h | h
      · exact AP.out g h e
      · have := D8.out.kp.lt; omega)
    have AR2 : ∀ g ∈ xS X av' ov', g ≠ zr := fun g hg e => by
      rcases hO2 g hg with h | h
      · exact AR.out g h e
      · have := D8.out.kr.lt; omega
    have D2 := hid (D8.out.chg hC2 (fun g hg => (H.out.lt g hg).2))
    rw [← ht1] at HACT
    clear hI2 hC2 hO2 X2x ht1 X8 D8
    have q6 := D2.out.kq.get 6 rfl
    have p3 := D2.out.kp.get 3 rfl
    have f3 := D2.out.kp.free 3
    go_upto_region 41 with fail
    have D4 := hid (D2.out.setP (P' := { repQ q with job := q.job }) 3 (.int .u32 (q.job : Int)) rfl)
    have X4 := hid (X2.out.newer (chg_setCell w2 zp 3 (.int .u32 (q.job : Int))) (by intro g hg; simp at hg; subst hg; exact D2.out.geP) (by intro g hg hm; simp at hm; subst hm; exact AP1.out g hg rfl))
    clear q6 p3 f3 D2 X2 kl HJ HK hk3 hk2
    generalize (w2.setCell ⟨zp, 3, none⟩ (.int .u32 (q.job : Int))) = w4 at D4 X4 ⊢
    have p2 : w4.cell? ⟨zp, 2, none⟩ = some (.int .i64 0) := D4.out.kp.get 2 rfl
    go_upto_region 42 with fail
    have q0 := D4.out.kq.get 0 rfl
    have p0 : w4.cell? ⟨zp, 0, none⟩ = some (.int .u8 (q.client : Int)) := D4.out.kp.get 0 rfl
    have p1 : w4.cell? ⟨zp, 1, none⟩ = some (.int .u32 (q.seq : Int)) := D4.out.kp.get 1 rfl
    have p3 : w4.cell? ⟨zp, 3, none⟩ = some (.int .u32 (q.job : Int)) := D4.out.kp.get 3 rfl
    have p4 : w4.cell? ⟨zp, 4, none⟩ = some (.int .u8 0) := D4.out.kp.get 4 rfl
    have p5 : w4.cell? ⟨zp, 5, none⟩ = some (.int .i64 0) := D4.out.kp.get 5 rfl
    have l0 := X4.out.isx.own.get (4 + q.client * 6 + 0) (by rw [x_last X4.out.isx.ok av' ov' HC.out (by omega)]; rfl)
    have fl0 := X4.out.isx.own.free (4 + q.client * 6 + 0)
    have l1 := X4.out.isx.own.get (4 + q.client * 6 + 1) (by rw [x_last X4.out.isx.ok av' ov' HC.out (by omega)]; rfl)
    have fl1 := X4.out.isx.own.free (4 + q.client * 6 + 1)
    have l2 := X4.out.isx.own.get (4 + q.client * 6 + 2) (by rw [x_last X4.out.isx.ok av' ov' HC.out (by omega)]; rfl)
    have fl2 := X4.out.isx.own.free (4 + q.client * 6 + 2)
    have l3 := X4.out.isx.own.get (4 + q.client * 6 + 3) (by rw [x_last X4.out.isx.ok av' ov' HC.out (by omega)]; rfl)
    have fl3 := X4.out.isx.own.free (4 + q.client * 6 + 3)
    have l4 := X4.out.isx.own.get (4 + q.client * 6 + 4) (by rw [x_last X4.out.isx.ok av' ov' HC.out (by omega)]; rfl)
    have fl4 := X4.out.isx.own.free (4 + q.client * 6 + 4)
    have l5 := X4.out.isx.own.get (4 + q.client * 6 + 5) (by rw [x_last X4.out.isx.ok av' ov' HC.out (by omega)]; rfl)
    have fl5 := X4.out.isx.own.free (4 + q.client * 6 + 5)
    rw [Nat.add_zero] at l0 fl0
    have Tl := X4.out.isx.own.lt
    have zl := D4.out.kp.lt
    go_region
    have HD := hid (show doT t q = ({ t1 with last := t1.last.set q.client ⟨q.client, q.seq, 0, q.job, 0, 0⟩ }, ⟨q.client, q.seq, 0, q.job, 0, 0⟩, true) from by rw [HA.out, HACT.out, if_pos rfl, ← HL1.out]; rfl)
    have HOK := hid (show TbD.Ok { t1 with last := t1.last.set q.client ⟨q.client, q.seq, 0, q.job, 0, 0⟩ } from by have := doT_ok H.out.ok q HQ.out; rw [HD.out] at this; exact this)
    obtain ⟨hI10, hC10⟩ := X4.out.isx.keepRep HC.out ⟨q.client, q.seq, 0, q.job, 0, 0⟩ (below_drew (set6 w4 X (4 + q.client * 6) (.int .u8 (q.client : Int)) (.int .u32 (q.seq : Int)) (.int .i64 (0)) (.int .u32 (q.job : Int)) (.int .u8 0) (.int .i64 0))) HOK.out
    have D10 := hid (show RoBl w.heap.size ((((((w4.setCell ⟨X, 4 + q.client * 6, none⟩ (.int .u8 (q.client : Int))).setCell ⟨X, 4 + q.client * 6 + 1, none⟩ (.int .u32 (q.seq : Int))).setCell ⟨X, 4 + q.client * 6 + 2, none⟩ (.int .i64 (0))).setCell ⟨X, 4 + q.client * 6 + 3, none⟩ (.int .u32 (q.job : Int))).setCell ⟨X, 4 + q.client * 6 + 4, none⟩ (.int .u8 0)).setCell ⟨X, 4 + q.client * 6 + 5, none⟩ (.int .i64 0)).drew q zq zr zp repZ ⟨q.client, q.seq, 0, q.job, 0, 0⟩ from D4.out.chg hC10 (by intro g hg; simp at hg; subst hg; exact H.out.own.lt))
    have X10 := hid (show DoX w ((((((w4.setCell ⟨X, 4 + q.client * 6, none⟩ (.int .u8 (q.client : Int))).setCell ⟨X, 4 + q.client * 6 + 1, none⟩ (.int .u32 (q.seq : Int))).setCell ⟨X, 4 + q.client * 6 + 2, none⟩ (.int .i64 (0))).setCell ⟨X, 4 + q.client * 6 + 3, none⟩ (.int .u32 (q.job : Int))).setCell ⟨X, 4 + q.client * 6 + 4, none⟩ (.int .u8 0)).setCell ⟨X, 4 + q.client * 6 + 5, none⟩ (.int .i64 0)).drew B X _ ov av' ov' { t1 with last := t1.last.set q.client ⟨q.client, q.seq, 0, q.job, 0, 0⟩ } from ⟨hI10, X4.out.chg.trans (hC10.mono (by intro g hg; simp at hg; subst hg; simp [xS])), X4.out.own⟩)
    generalize ((((((w4.setCell ⟨X, 4 + q.client * 6, none⟩ (.int .u8 (q.client : Int))).setCell ⟨X, 4 + q.client * 6 + 1, none⟩ (.int .u32 (q.seq : Int))).setCell ⟨X, 4 + q.client * 6 + 2, none⟩ (.int .i64 (0))).setCell ⟨X, 4 + q.client * 6 + 3, none⟩ (.int .u32 (q.job : Int))).setCell ⟨X, 4 + q.client * 6 + 4, none⟩ (.int .u8 0)).setCell ⟨X, 4 + q.client * 6 + 5, none⟩ (.int .i64 0)).drew = w10 at D10 X10 ⊢
    clear hI10 hC10 q0 p0 p1 p2 p3 p4 p5 l0 l1 l2 l3 l4 l5 fl0 fl1 fl2 fl3 fl4 fl5 Tl zl D4
    go_upto_region 43 with fail
    have p0 : w10.cell? ⟨zp, 0, none⟩ = some (.int .u8 (q.client : Int)) := D10.out.kp.get 0 rfl
    have p1 : w10.cell? ⟨zp, 1, none⟩ = some (.int .u32 (q.seq : Int)) := D10.out.kp.get 1 rfl
    have p2 : w10.cell? ⟨zp, 2, none⟩ = some (.int .i64 (0)) := D10.out.kp.get 2 rfl
    have p3 : w10.cell? ⟨zp, 3, none⟩ = some (.int .u32 (q.job : Int)) := D10.out.kp.get 3 rfl
    have p4 : w10.cell? ⟨zp, 4, none⟩ = some (.int .u8 0) := D10.out.kp.get 4 rfl
    have p5 : w10.cell? ⟨zp, 5, none⟩ = some (.int .i64 0) := D10.out.kp.get 5 rfl
    have r0 := D10.out.kr.get 0 rfl
    have fr0 := D10.out.kr.free 0
    have r1 := D10.out.kr.get 1 rfl
    have fr1 := D10.out.kr.free 1
    have r2 := D10.out.kr.get 2 rfl
    have fr2 := D10.out.kr.free 2
    have r3 := D10.out.kr.get 3 rfl
    have fr3 := D10.out.kr.free 3
    have r4 := D10.out.kr.get 4 rfl
    have fr4 := D10.out.kr.free 4
    have r5 := D10.out.kr.get 5 rfl
    have fr5 := D10.out.kr.free 5
    have zl := D10.out.kr.lt
    have zl2 := D10.out.kp.lt
    have zn1 : zr ≠ zp := Nat.ne_of_lt D10.out.l3
    have zn2 : zp ≠ zr := zn1.symm
    go_region
    have hC11 := hid ((chg_set6 w10 zr 0 (.int .u8 (q.client : Int)) (.int .u32 (q.seq : Int)) (.int .i64 (0)) (.int .u32 (q.job : Int)) (.int .u8 0) (.int .i64 0)).trans (Chg.of_below [zr] (below_drew _)))
    have hZ11 := hid (show Blk (set6 w10 zr 0 (.int .u8 (q.client : Int)) (.int .u32 (q.seq : Int)) (.int .i64 (0)) (.int .u32 (q.job : Int)) (.int .u8 0) (.int .i64 0)).drew zr (repV (⟨q.client, q.seq, 0, q.job, 0, 0⟩ : RepD)) 30 from (blk_set6 D10.out.kr 0 _ _ _ _ _ _).below (below_drew _))
    unfold set6 at hZ11 hC11
    simp only [Nat.zero_add] at hZ11 hC11
    generalize ((((((w10.setCell ⟨zr, 0, none⟩ (.int .u8 (q.client : Int))).setCell ⟨zr, 1, none⟩ (.int .u32 (q.seq : Int))).setCell ⟨zr, 2, none⟩ (.int .i64 (0))).setCell ⟨zr, 3, none⟩ (.int .u32 (q.job : Int))).setCell ⟨zr, 4, none⟩ (.int .u8 0)).setCell ⟨zr, 5, none⟩ (.int .i64 0)).drew = w11 at hZ11 hC11 ⊢
    clear p0 p1 p2 p3 p4 p5 r0 r1 r2 r3 r4 r5 fr0 fr1 fr2 fr3 fr4 fr5 zl zl2 zn1 zn2
    repeat go_step
    refine bodyPost_ret (v := .tuple #[.agg (repV (⟨q.client, q.seq, 0, q.job, 0, 0⟩ : RepD)).toArray, .bool true]) (results_blk2 (fn := Tryd.f24) (p := 4) (q := 5) (ty := 30) rfl _ zr (repV (⟨q.client, q.seq, 0, q.job, 0, 0⟩ : RepD)) 30 (.bool true) rfl rfl hZ11.out row_rep size_rep) rfl ?_
    rw [HD.out]
    exact (X10.out.newer hC11.out (by intro g hg; simp at hg; subst hg; exact D10.out.geR) (by intro g hg hm; simp at hm; subst hm; exact AR2 g hg rfl)).to
  case inl =>
    have g1 : ((q.kind : Int) == 1) = true := by simp; omega
    have n2 : ¬ q.kind = 2 := by omega
    have hact : actT t q = submitT t q := if_neg n2
    have HSUB := hid (show actT t q = if 3 < q.tier ∨ q.k < 1 ∨ q.w < 1 ∨ 10000 < q.w then (t, 0, 1) else if t.nodes < q.k then (t, 0, 9) else if 64 ≤ t.active.length ∨ t.spent = 4294967295 then (t, 0, 8) else ({ t with spent := t.spent + 1, active := t.active ++ [⟨t.spent + 1, q.tier, q.k, q.w, 0, 0⟩] }, t.spent + 1, 0) from hact)
    clear hact n2 HK HK3
    by_cases c1 : 3 < q.tier
    · have c1' : (3 : Int) < (q.tier : Int) := by omega
      have HD := hid (show doT t q = (t, ⟨q.client, q.seq, 1, 0, 0, 0⟩, false) from by rw [HA.out, show actT t q = (t, 0, 1) from by rw [HSUB.out, if_pos (.inl c1)], if_neg (show ¬ ((1 : Int) = 0) from by decide)]; rfl)
      have f2 := D9.out.kp.free 2
      go_upto_region 41 with fail
      have D8 := hid (D9.out.setP (P' := { repQ q with e := 1 }) 2 (.int .i64 1) rfl)
      have X8 := hid (X9.out.newer (chg_setCell w9 zp 2 (.int .i64 1)) (by intro g hg; simp at hg; subst hg; exact D9.out.geP) (by intro g hg hm; simp at hm; subst hm; exact AP.out g hg rfl))
      clear p2 f2
      generalize (w9.setCell ⟨zp, 2, none⟩ (.int .i64 1)) = w8 at D8 X8 ⊢
      clear q0 q1 q2 q3 q4 q5 q6
      have p2 : w8.cell? ⟨zp, 2, none⟩ = some (.int .i64 (1)) := D8.out.kp.get 2 rfl
      go_upto_region 43 with fail
      clear p2
      have AR2 := AR.out
      have p0 : w8.cell? ⟨zp, 0, none⟩ = some (.int .u8 (q.client : Int)) := D8.out.kp.get 0 rfl
      have p1 : w8.cell? ⟨zp, 1, none⟩ = some (.int .u32 (q.seq : Int)) := D8.out.kp.get 1 rfl
      have p2 : w8.cell? ⟨zp, 2, none⟩ = some (.int .i64 (1)) := D8.out.kp.get 2 rfl
      have p3 : w8.cell? ⟨zp, 3, none⟩ = some (.int .u32 (0 : Int)) := D8.out.kp.get 3 rfl
      have p4 : w8.cell? ⟨zp, 4, none⟩ = some (.int .u8 0) := D8.out.kp.get 4 rfl
      have p5 : w8.cell? ⟨zp, 5, none⟩ = some (.int .i64 0) := D8.out.kp.get 5 rfl
      have r0 := D8.out.kr.get 0 rfl
      have fr0 := D8.out.kr.free 0
      have r1 := D8.out.kr.get 1 rfl
      have fr1 := D8.out.kr.free 1
      have r2 := D8.out.kr.get 2 rfl
      have fr2 := D8.out.kr.free 2
      have r3 := D8.out.kr.get 3 rfl
      have fr3 := D8.out.kr.free 3
      have r4 := D8.out.kr.get 4 rfl
      have fr4 := D8.out.kr.free 4
      have r5 := D8.out.kr.get 5 rfl
      have fr5 := D8.out.kr.free 5
      have zl := D8.out.kr.lt
      have zl2 := D8.out.kp.lt
      have zn1 : zr ≠ zp := Nat.ne_of_lt D8.out.l3
      have zn2 : zp ≠ zr := zn1.symm
      go_region
      have hC11 := hid ((chg_set6 w8 zr 0 (.int .u8 (q.client : Int)) (.int .u32 (q.seq : Int)) (.int .i64 (1)) (.int .u32 (0 : Int)) (.int .u8 0) (.int .i64 0)).trans (Chg.of_below [zr] (below_drew _)))
      have hZ11 := hid (show Blk (set6 w8 zr 0 (.int .u8 (q.client : Int)) (.int .u32 (q.seq : Int)) (.int .i64 (1)) (.int .u32 (0 : Int)) (.int .u8 0) (.int .i64 0)).drew zr (repV (⟨q.client, q.seq, 1, 0, 0, 0⟩ : RepD)) 30 from (blk_set6 D8.out.kr 0 _ _ _ _ _ _).below (below_drew _))
      unfold set6 at hZ11 hC11
      simp only [Nat.zero_add] at hZ11 hC11
      generalize ((((((w8.setCell ⟨zr, 0, none⟩ (.int .u8 (q.client : Int))).setCell ⟨zr, 1, none⟩ (.int .u32 (q.seq : Int))).setCell ⟨zr, 2, none⟩ (.int .i64 (1))).setCell ⟨zr, 3, none⟩ (.int .u32 (0 : Int))).setCell ⟨zr, 4, none⟩ (.int .u8 0)).setCell ⟨zr, 5, none⟩ (.int .i64 0)).drew = w11 at hZ11 hC11 ⊢
      clear p0 p1 p2 p3 p4 p5 r0 r1 r2 r3 r4 r5 fr0 fr1 fr2 fr3 fr4 fr5 zl zl2 zn1 zn2
      repeat go_step
      refine bodyPost_ret (v := .tuple #[.agg (repV (⟨q.client, q.seq, 1, 0, 0, 0⟩ : RepD)).toArray, .bool false]) (results_blk2 (fn := Tryd.f24) (p := 4) (q := 5) (ty := 30) rfl _ zr (repV (⟨q.client, q.seq, 1, 0, 0, 0⟩ : RepD)) 30 (.bool false) rfl rfl hZ11.out row_rep size_rep) rfl ?_
      rw [HD.out]
      exact (X8.out.newer hC11.out (by intro g hg; simp at hg; subst hg; exact D8.out.geR) (by intro g hg hm; simp at hm; subst hm; exact AR2 g hg rfl)).to
    have c1' : ¬ ((3 : Int) < (q.tier : Int)) := by omega
    by_cases c2 : q.k < 1
    · skip
      have HD := hid (show doT t q = (t, ⟨q.client, q.seq, 1, 0, 0, 0⟩, false) from by rw [HA.out, show actT t q = (t, 0, 1) from by rw [HSUB.out, if_pos (.inr (.inl c2))], if_neg (show ¬ ((1 : Int) = 0) from by decide)]; rfl)
      have f2 := D9.out.kp.free 2
      go_upto_region 41 with fail
      have D8 := hid (D9.out.setP (P' := { repQ q with e := 1 }) 2 (.int .i64 1) rfl)
      have X8 := hid (X9.out.newer (chg_setCell w9 zp 2 (.int .i64 1)) (by intro g hg; simp at hg; subst hg; exact D9.out.geP) (by intro g hg hm; simp at hm; subst hm; exact AP.out g hg rfl))
      clear p2 f2
      generalize (w9.setCell ⟨zp, 2, none⟩ (.int .i64 1)) = w8 at D8 X8 ⊢
      clear q0 q1 q2 q3 q4 q5 q6
      have p2 : w8.cell? ⟨zp, 2, none⟩ = some (.int .i64 (1)) := D8.out.kp.get 2 rfl
      go_upto_region 43 with fail
      clear p2
      have AR2 := AR.out
      have p0 : w8.cell? ⟨zp, 0, none⟩ = some (.int .u8 (q.client : Int)) := D8.out.kp.get 0 rfl
      have p1 : w8.cell? ⟨zp, 1, none⟩ = some (.int .u32 (q.seq : Int)) := D8.out.kp.get 1 rfl
      have p2 : w8.cell? ⟨zp, 2, none⟩ = some (.int .i64 (1)) := D8.out.kp.get 2 rfl
      have p3 : w8.cell? ⟨zp, 3, none⟩ = some (.int .u32 (0 : Int)) := D8.out.kp.get 3 rfl
      have p4 : w8.cell? ⟨zp, 4, none⟩ = some (.int .u8 0) := D8.out.kp.get 4 rfl
      have p5 : w8.cell? ⟨zp, 5, none⟩ = some (.int .i64 0) := D8.out.kp.get 5 rfl
      have r0 := D8.out.kr.get 0 rfl
      have fr0 := D8.out.kr.free 0
      have r1 := D8.out.kr.get 1 rfl
      have fr1 := D8.out.kr.free 1
      have r2 := D8.out.kr.get 2 rfl
      have fr2 := D8.out.kr.free 2
      have r3 := D8.out.kr.get 3 rfl
      have fr3 := D8.out.kr.free 3
      have r4 := D8.out.kr.get 4 rfl
      have fr4 := D8.out.kr.free 4
      have r5 := D8.out.kr.get 5 rfl
      have fr5 := D8.out.kr.free 5
      have zl := D8.out.kr.lt
      have zl2 := D8.out.kp.lt
      have zn1 : zr ≠ zp := Nat.ne_of_lt D8.out.l3
      have zn2 : zp ≠ zr := zn1.symm
      go_region
      have hC11 := hid ((chg_set6 w8 zr 0 (.int .u8 (q.client : Int)) (.int .u32 (q.seq : Int)) (.int .i64 (1)) (.int .u32 (0 : Int)) (.int .u8 0) (.int .i64 0)).trans (Chg.of_below [zr] (below_drew _)))
      have hZ11 := hid (show Blk (set6 w8 zr 0 (.int .u8 (q.client : Int)) (.int .u32 (q.seq : Int)) (.int .i64 (1)) (.int .u32 (0 : Int)) (.int .u8 0) (.int .i64 0)).drew zr (repV (⟨q.client, q.seq, 1, 0, 0, 0⟩ : RepD)) 30 from (blk_set6 D8.out.kr 0 _ _ _ _ _ _).below (below_drew _))
      unfold set6 at hZ11 hC11
      simp only [Nat.zero_add] at hZ11 hC11
      generalize ((((((w8.setCell ⟨zr, 0, none⟩ (.int .u8 (q.client : Int))).setCell ⟨zr, 1, none⟩ (.int .u32 (q.seq : Int))).setCell ⟨zr, 2, none⟩ (.int .i64 (1))).setCell ⟨zr, 3, none⟩ (.int .u32 (0 : Int))).setCell ⟨zr, 4, none⟩ (.int .u8 0)).setCell ⟨zr, 5, none⟩ (.int .i64 0)).drew = w11 at hZ11 hC11 ⊢
      clear p0 p1 p2 p3 p4 p5 r0 r1 r2 r3 r4 r5 fr0 fr1 fr2 fr3 fr4 fr5 zl zl2 zn1 zn2
      repeat go_step
      refine bodyPost_ret (v := .tuple #[.agg (repV (⟨q.client, q.seq, 1, 0, 0, 0⟩ : RepD)).toArray, .bool false]) (results_blk2 (fn := Tryd.f24) (p := 4) (q := 5) (ty := 30) rfl _ zr (repV (⟨q.client, q.seq, 1, 0, 0, 0⟩ : RepD)) 30 (.bool false) rfl rfl hZ11.out row_rep size_rep) rfl ?_
      rw [HD.out]
      exact (X8.out.newer hC11.out (by intro g hg; simp at hg; subst hg; exact D8.out.geR) (by intro g hg hm; simp at hm; subst hm; exact AR2 g hg rfl)).to
    by_cases c3 : q.w < 1
    · skip
      have HD := hid (show doT t q = (t, ⟨q.client, q.seq, 1, 0, 0, 0⟩, false) from by rw [HA.out, show actT t q = (t, 0, 1) from by rw [HSUB.out, if_pos (.inr (.inr (.inl c3)))], if_neg (show ¬ ((1 : Int) = 0) from by decide)]; rfl)
      have f2 := D9.out.kp.free 2
      go_upto_region 41 with fail
      have D8 := hid (D9.out.setP (P' := { repQ q with e := 1 }) 2 (.int .i64 1) rfl)
      have X8 := hid (X9.out.newer (chg_setCell w9 zp 2 (.int .i64 1)) (by intro g hg; simp at hg; subst hg; exact D9.out.geP) (by intro g hg hm; simp at hm; subst hm; exact AP.out g hg rfl))
      clear p2 f2
      generalize (w9.setCell ⟨zp, 2, none⟩ (.int .i64 1)) = w8 at D8 X8 ⊢
      clear q0 q1 q2 q3 q4 q5 q6
      have p2 : w8.cell? ⟨zp, 2, none⟩ = some (.int .i64 (1)) := D8.out.kp.get 2 rfl
      go_upto_region 43 with fail
      clear p2
      have AR2 := AR.out
      have p0 : w8.cell? ⟨zp, 0, none⟩ = some (.int .u8 (q.client : Int)) := D8.out.kp.get 0 rfl
      have p1 : w8.cell? ⟨zp, 1, none⟩ = some (.int .u32 (q.seq : Int)) := D8.out.kp.get 1 rfl
      have p2 : w8.cell? ⟨zp, 2, none⟩ = some (.int .i64 (1)) := D8.out.kp.get 2 rfl
      have p3 : w8.cell? ⟨zp, 3, none⟩ = some (.int .u32 (0 : Int)) := D8.out.kp.get 3 rfl
      have p4 : w8.cell? ⟨zp, 4, none⟩ = some (.int .u8 0) := D8.out.kp.get 4 rfl
      have p5 : w8.cell? ⟨zp, 5, none⟩ = some (.int .i64 0) := D8.out.kp.get 5 rfl
      have r0 := D8.out.kr.get 0 rfl
      have fr0 := D8.out.kr.free 0
      have r1 := D8.out.kr.get 1 rfl
      have fr1 := D8.out.kr.free 1
      have r2 := D8.out.kr.get 2 rfl
      have fr2 := D8.out.kr.free 2
      have r3 := D8.out.kr.get 3 rfl
      have fr3 := D8.out.kr.free 3
      have r4 := D8.out.kr.get 4 rfl
      have fr4 := D8.out.kr.free 4
      have r5 := D8.out.kr.get 5 rfl
      have fr5 := D8.out.kr.free 5
      have zl := D8.out.kr.lt
      have zl2 := D8.out.kp.lt
      have zn1 : zr ≠ zp := Nat.ne_of_lt D8.out.l3
      have zn2 : zp ≠ zr := zn1.symm
      go_region
      have hC11 := hid ((chg_set6 w8 zr 0 (.int .u8 (q.client : Int)) (.int .u32 (q.seq : Int)) (.int .i64 (1)) (.int .u32 (0 : Int)) (.int .u8 0) (.int .i64 0)).trans (Chg.of_below [zr] (below_drew _)))
      have hZ11 := hid (show Blk (set6 w8 zr 0 (.int .u8 (q.client : Int)) (.int .u32 (q.seq : Int)) (.int .i64 (1)) (.int .u32 (0 : Int)) (.int .u8 0) (.int .i64 0)).drew zr (repV (⟨q.client, q.seq, 1, 0, 0, 0⟩ : RepD)) 30 from (blk_set6 D8.out.kr 0 _ _ _ _ _ _).below (below_drew _))
      unfold set6 at hZ11 hC11
      simp only [Nat.zero_add] at hZ11 hC11
      generalize ((((((w8.setCell ⟨zr, 0, none⟩ (.int .u8 (q.client : Int))).setCell ⟨zr, 1, none⟩ (.int .u32 (q.seq : Int))).setCell ⟨zr, 2, none⟩ (.int .i64 (1))).setCell ⟨zr, 3, none⟩ (.int .u32 (0 : Int))).setCell ⟨zr, 4, none⟩ (.int .u8 0)).setCell ⟨zr, 5, none⟩ (.int .i64 0)).drew = w11 at hZ11 hC11 ⊢
      clear p0 p1 p2 p3 p4 p5 r0 r1 r2 r3 r4 r5 fr0 fr1 fr2 fr3 fr4 fr5 zl zl2 zn1 zn2
      repeat go_step
      refine bodyPost_ret (v := .tuple #[.agg (repV (⟨q.client, q.seq, 1, 0, 0, 0⟩ : RepD)).toArray, .bool false]) (results_blk2 (fn := Tryd.f24) (p := 4) (q := 5) (ty := 30) rfl _ zr (repV (⟨q.client, q.seq, 1, 0, 0, 0⟩ : RepD)) 30 (.bool false) rfl rfl hZ11.out row_rep size_rep) rfl ?_
      rw [HD.out]
      exact (X8.out.newer hC11.out (by intro g hg; simp at hg; subst hg; exact D8.out.geR) (by intro g hg hm; simp at hm; subst hm; exact AR2 g hg rfl)).to
    by_cases c4 : 10000 < q.w
    · skip
      have HD := hid (show doT t q = (t, ⟨q.client, q.seq, 1, 0, 0, 0⟩, false) from by rw [HA.out, show actT t q = (t, 0, 1) from by rw [HSUB.out, if_pos (.inr (.inr (.inr c4)))], if_neg (show ¬ ((1 : Int) = 0) from by decide)]; rfl)
      have f2 := D9.out.kp.free 2
      go_upto_region 41 with fail
      have D8 := hid (D9.out.setP (P' := { repQ q with e := 1 }) 2 (.int .i64 1) rfl)
      have X8 := hid (X9.out.newer (chg_setCell w9 zp 2 (.int .i64 1)) (by intro g hg; simp at hg; subst hg; exact D9.out.geP) (by intro g hg hm; simp at hm; subst hm; exact AP.out g hg rfl))
      clear p2 f2
      generalize (w9.setCell ⟨zp, 2, none⟩ (.int .i64 1)) = w8 at D8 X8 ⊢
      clear q0 q1 q2 q3 q4 q5 q6
      have p2 : w8.cell? ⟨zp, 2, none⟩ = some (.int .i64 (1)) := D8.out.kp.get 2 rfl
      go_upto_region 43 with fail
      clear p2
      have AR2 := AR.out
      have p0 : w8.cell? ⟨zp, 0, none⟩ = some (.int .u8 (q.client : Int)) := D8.out.kp.get 0 rfl
      have p1 : w8.cell? ⟨zp, 1, none⟩ = some (.int .u32 (q.seq : Int)) := D8.out.kp.get 1 rfl
      have p2 : w8.cell? ⟨zp, 2, none⟩ = some (.int .i64 (1)) := D8.out.kp.get 2 rfl
      have p3 : w8.cell? ⟨zp, 3, none⟩ = some (.int .u32 (0 : Int)) := D8.out.kp.get 3 rfl
      have p4 : w8.cell? ⟨zp, 4, none⟩ = some (.int .u8 0) := D8.out.kp.get 4 rfl
      have p5 : w8.cell? ⟨zp, 5, none⟩ = some (.int .i64 0) := D8.out.kp.get 5 rfl
      have r0 := D8.out.kr.get 0 rfl
      have fr0 := D8.out.kr.free 0
      have r1 := D8.out.kr.get 1 rfl
      have fr1 := D8.out.kr.free 1
      have r2 := D8.out.kr.get 2 rfl
      have fr2 := D8.out.kr.free 2
      have r3 := D8.out.kr.get 3 rfl
      have fr3 := D8.out.kr.free 3
      have r4 := D8.out.kr.get 4 rfl
      have fr4 := D8.out.kr.free 4
      have r5 := D8.out.kr.get 5 rfl
      have fr5 := D8.out.kr.free 5
      have zl := D8.out.kr.lt
      have zl2 := D8.out.kp.lt
      have zn1 : zr ≠ zp := Nat.ne_of_lt D8.out.l3
      have zn2 : zp ≠ zr := zn1.symm
      go_region
      have hC11 := hid ((chg_set6 w8 zr 0 (.int .u8 (q.client : Int)) (.int .u32 (q.seq : Int)) (.int .i64 (1)) (.int .u32 (0 : Int)) (.int .u8 0) (.int .i64 0)).trans (Chg.of_below [zr] (below_drew _)))
      have hZ11 := hid (show Blk (set6 w8 zr 0 (.int .u8 (q.client : Int)) (.int .u32 (q.seq : Int)) (.int .i64 (1)) (.int .u32 (0 : Int)) (.int .u8 0) (.int .i64 0)).drew zr (repV (⟨q.client, q.seq, 1, 0, 0, 0⟩ : RepD)) 30 from (blk_set6 D8.out.kr 0 _ _ _ _ _ _).below (below_drew _))
      unfold set6 at hZ11 hC11
      simp only [Nat.zero_add] at hZ11 hC11
      generalize ((((((w8.setCell ⟨zr, 0, none⟩ (.int .u8 (q.client : Int))).setCell ⟨zr, 1, none⟩ (.int .u32 (q.seq : Int))).setCell ⟨zr, 2, none⟩ (.int .i64 (1))).setCell ⟨zr, 3, none⟩ (.int .u32 (0 : Int))).setCell ⟨zr, 4, none⟩ (.int .u8 0)).setCell ⟨zr, 5, none⟩ (.int .i64 0)).drew = w11 at hZ11 hC11 ⊢
      clear p0 p1 p2 p3 p4 p5 r0 r1 r2 r3 r4 r5 fr0 fr1 fr2 fr3 fr4 fr5 zl zl2 zn1 zn2
      repeat go_step
      refine bodyPost_ret (v := .tuple #[.agg (repV (⟨q.client, q.seq, 1, 0, 0, 0⟩ : RepD)).toArray, .bool false]) (results_blk2 (fn := Tryd.f24) (p := 4) (q := 5) (ty := 30) rfl _ zr (repV (⟨q.client, q.seq, 1, 0, 0, 0⟩ : RepD)) 30 (.bool false) rfl rfl hZ11.out row_rep size_rep) rfl ?_
      rw [HD.out]
      exact (X8.out.newer hC11.out (by intro g hg; simp at hg; subst hg; exact D8.out.geR) (by intro g hg hm; simp at hm; subst hm; exact AR2 g hg rfl)).to
    have c2' : ¬ (q.k < 1) := c2
    have FEW := hid H.out.ok.few
    have c0 := X9.out.isx.own.get 0 rfl
    go_upto_region 32 with fail
    have zl9 := X9.out.isx.own.lt
    have zq9 := D9.out.kq.lt
    by_cases c5 : t.nodes < q.k
    · go_region
      have D9d := hid (D9.out.below (below_drew _))
      have X9d := hid (X9.out.below (below_drew _))
      clear c0 zl9 zq9 p2 q0 q1 q2 q3 q4 q5 q6
      generalize w9.drew = wd at D9d X9d ⊢
      have q0 := D9d.out.kq.get 0 rfl
      have q1 := D9d.out.kq.get 1 rfl
      have q2 := D9d.out.kq.get 2 rfl
      have q3 := D9d.out.kq.get 3 rfl
      have q4 := D9d.out.kq.get 4 rfl
      have q5 := D9d.out.kq.get 5 rfl
      have q6 := D9d.out.kq.get 6 rfl
      have p2 := D9d.out.kp.get 2 rfl
      have HD := hid (show doT t q = (t, ⟨q.client, q.seq, 9, 0, 0, 0⟩, false) from by rw [HA.out, show actT t q = (t, 0, 9) from by rw [HSUB.out, if_neg (by omega), if_pos c5], if_neg (show ¬ ((9 : Int) = 0) from by decide)]; rfl)
      have f2 := D9d.out.kp.free 2
      go_upto_region 41 with fail
      have D8 := hid (D9d.out.setP (P' := { repQ q with e := 9 }) 2 (.int .i64 9) rfl)
      have X8 := hid (X9d.out.newer (chg_setCell wd zp 2 (.int .i64 9)) (by intro g hg; simp at hg; subst hg; exact D9d.out.geP) (by intro g hg hm; simp at hm; subst hm; exact AP.out g hg rfl))
      clear p2 f2
      generalize (wd.setCell ⟨zp, 2, none⟩ (.int .i64 9)) = w8 at D8 X8 ⊢
      clear q0 q1 q2 q3 q4 q5 q6
      have p2 : w8.cell? ⟨zp, 2, none⟩ = some (.int .i64 (9)) := D8.out.kp.get 2 rfl
      go_upto_region 43 with fail
      clear p2
      have AR2 := AR.out
      have p0 : w8.cell? ⟨zp, 0, none⟩ = some (.int .u8 (q.client : Int)) := D8.out.kp.get 0 rfl
      have p1 : w8.cell? ⟨zp, 1, none⟩ = some (.int .u32 (q.seq : Int)) := D8.out.kp.get 1 rfl
      have p2 : w8.cell? ⟨zp, 2, none⟩ = some (.int .i64 (9)) := D8.out.kp.get 2 rfl
      have p3 : w8.cell? ⟨zp, 3, none⟩ = some (.int .u32 (0 : Int)) := D8.out.kp.get 3 rfl
      have p4 : w8.cell? ⟨zp, 4, none⟩ = some (.int .u8 0) := D8.out.kp.get 4 rfl
      have p5 : w8.cell? ⟨zp, 5, none⟩ = some (.int .i64 0) := D8.out.kp.get 5 rfl
      have r0 := D8.out.kr.get 0 rfl
      have fr0 := D8.out.kr.free 0
      have r1 := D8.out.kr.get 1 rfl
      have fr1 := D8.out.kr.free 1
      have r2 := D8.out.kr.get 2 rfl
      have fr2 := D8.out.kr.free 2
      have r3 := D8.out.kr.get 3 rfl
      have fr3 := D8.out.kr.free 3
      have r4 := D8.out.kr.get 4 rfl
      have fr4 := D8.out.kr.free 4
      have r5 := D8.out.kr.get 5 rfl
      have fr5 := D8.out.kr.free 5
      have zl := D8.out.kr.lt
      have zl2 := D8.out.kp.lt
      have zn1 : zr ≠ zp := Nat.ne_of_lt D8.out.l3
      have zn2 : zp ≠ zr := zn1.symm
      go_region
      have hC11 := hid ((chg_set6 w8 zr 0 (.int .u8 (q.client : Int)) (.int .u32 (q.seq : Int)) (.int .i64 (9)) (.int .u32 (0 : Int)) (.int .u8 0) (.int .i64 0)).trans (Chg.of_below [zr] (below_drew _)))
      have hZ11 := hid (show Blk (set6 w8 zr 0 (.int .u8 (q.client : Int)) (.int .u32 (q.seq : Int)) (.int .i64 (9)) (.int .u32 (0 : Int)) (.int .u8 0) (.int .i64 0)).drew zr (repV (⟨q.client, q.seq, 9, 0, 0, 0⟩ : RepD)) 30 from (blk_set6 D8.out.kr 0 _ _ _ _ _ _).below (below_drew _))
      unfold set6 at hZ11 hC11
      simp only [Nat.zero_add] at hZ11 hC11
      generalize ((((((w8.setCell ⟨zr, 0, none⟩ (.int .u8 (q.client : Int))).setCell ⟨zr, 1, none⟩ (.int .u32 (q.seq : Int))).setCell ⟨zr, 2, none⟩ (.int .i64 (9))).setCell ⟨zr, 3, none⟩ (.int .u32 (0 : Int))).setCell ⟨zr, 4, none⟩ (.int .u8 0)).setCell ⟨zr, 5, none⟩ (.int .i64 0)).drew = w11 at hZ11 hC11 ⊢
      clear p0 p1 p2 p3 p4 p5 r0 r1 r2 r3 r4 r5 fr0 fr1 fr2 fr3 fr4 fr5 zl zl2 zn1 zn2
      repeat go_step
      refine bodyPost_ret (v := .tuple #[.agg (repV (⟨q.client, q.seq, 9, 0, 0, 0⟩ : RepD)).toArray, .bool false]) (results_blk2 (fn := Tryd.f24) (p := 4) (q := 5) (ty := 30) rfl _ zr (repV (⟨q.client, q.seq, 9, 0, 0, 0⟩ : RepD)) 30 (.bool false) rfl rfl hZ11.out row_rep size_rep) rfl ?_
      rw [HD.out]
      exact (X8.out.newer hC11.out (by intro g hg; simp at hg; subst hg; exact D8.out.geR) (by intro g hg hm; simp at hm; subst hm; exact AR2 g hg rfl)).to
    go_region
    have D9d := hid (D9.out.below (below_drew _))
    have X9d := hid (X9.out.below (below_drew _))
    clear c0 zl9 zq9 p2 q0 q1 q2 q3 q4 q5 q6 D9 X9
    generalize w9.drew = wd at D9d X9d ⊢
    obtain ⟨aa, na, ca, hav, hna, hnc, hcsa⟩ := H.out.act.cs
    subst hna
    subst hav
    have q0 := D9d.out.kq.get 0 rfl
    have q1 := D9d.out.kq.get 1 rfl
    have q2 := D9d.out.kq.get 2 rfl
    have q3 := D9d.out.kq.get 3 rfl
    have q4 := D9d.out.kq.get 4 rfl
    have q5 := D9d.out.kq.get 5 rfl
    have q6 := D9d.out.kq.get 6 rfl
    have p2 := D9d.out.kp.get 2 rfl
    have x1 := X9d.out.isx.own.get 1 rfl
    have x2 := X9d.out.isx.own.get 2 rfl
    have fx1 := X9d.out.isx.own.free 1
    by_cases c6 : 64 ≤ t.active.length
    · have c6' : (64 : Int) ≤ (t.active.length : Int) := by omega
      have HD := hid (show doT t q = (t, ⟨q.client, q.seq, 8, 0, 0, 0⟩, false) from by rw [HA.out, show actT t q = (t, 0, 8) from by rw [HSUB.out, if_neg (by omega), if_neg c5, if_pos (.inl c6)], if_neg (show ¬ ((8 : Int) = 0) from by decide)]; rfl)
      have f2 := D9d.out.kp.free 2
      go_upto_region 41 with fail
      have D8 := hid (D9d.out.setP (P' := { repQ q with e := 8 }) 2 (.int .i64 8) rfl)
      have X8 := hid (X9d.out.newer (chg_setCell wd zp 2 (.int .i64 8)) (by intro g hg; simp at hg; subst hg; exact D9d.out.geP) (by intro g hg hm; simp at hm; subst hm; exact AP.out g hg rfl))
      clear p2 f2
      generalize (wd.setCell ⟨zp, 2, none⟩ (.int .i64 8)) = w8 at D8 X8 ⊢
      clear q0 q1 q2 q3 q4 q5 q6
      have p2 : w8.cell? ⟨zp, 2, none⟩ = some (.int .i64 (8)) := D8.out.kp.get 2 rfl
      go_upto_region 43 with fail
      clear p2
      have AR2 := AR.out
      have p0 : w8.cell? ⟨zp, 0, none⟩ = some (.int .u8 (q.client : Int)) := D8.out.kp.get 0 rfl
      have p1 : w8.cell? ⟨zp, 1, none⟩ = some (.int .u32 (q.seq : Int)) := D8.out.kp.get 1 rfl
      have p2 : w8.cell? ⟨zp, 2, none⟩ = some (.int .i64 (8)) := D8.out.kp.get 2 rfl
      have p3 : w8.cell? ⟨zp, 3, none⟩ = some (.int .u32 (0 : Int)) := D8.out.kp.get 3 rfl
      have p4 : w8.cell? ⟨zp, 4, none⟩ = some (.int .u8 0) := D8.out.kp.get 4 rfl
      have p5 : w8.cell? ⟨zp, 5, none⟩ = some (.int .i64 0) := D8.out.kp.get 5 rfl
      have r0 := D8.out.kr.get 0 rfl
      have fr0 := D8.out.kr.free 0
      have r1 := D8.out.kr.get 1 rfl
      have fr1 := D8.out.kr.free 1
      have r2 := D8.out.kr.get 2 rfl
      have fr2 := D8.out.kr.free 2
      have r3 := D8.out.kr.get 3 rfl
      have fr3 := D8.out.kr.free 3
      have r4 := D8.out.kr.get 4 rfl
      have fr4 := D8.out.kr.free 4
      have r5 := D8.out.kr.get 5 rfl
      have fr5 := D8.out.kr.free 5
      have zl := D8.out.kr.lt
      have zl2 := D8.out.kp.lt
      have zn1 : zr ≠ zp := Nat.ne_of_lt D8.out.l3
      have zn2 : zp ≠ zr := zn1.symm
      go_region
      have hC11 := hid ((chg_set6 w8 zr 0 (.int .u8 (q.client : Int)) (.int .u32 (q.seq : Int)) (.int .i64 (8)) (.int .u32 (0 : Int)) (.int .u8 0) (.int .i64 0)).trans (Chg.of_below [zr] (below_drew _)))
      have hZ11 := hid (show Blk (set6 w8 zr 0 (.int .u8 (q.client : Int)) (.int .u32 (q.seq : Int)) (.int .i64 (8)) (.int .u32 (0 : Int)) (.int .u8 0) (.int .i64 0)).drew zr (repV (⟨q.client, q.seq, 8, 0, 0, 0⟩ : RepD)) 30 from (blk_set6 D8.out.kr 0 _ _ _ _ _ _).below (below_drew _))
      unfold set6 at hZ11 hC11
      simp only [Nat.zero_add] at hZ11 hC11
      generalize ((((((w8.setCell ⟨zr, 0, none⟩ (.int .u8 (q.client : Int))).setCell ⟨zr, 1, none⟩ (.int .u32 (q.seq : Int))).setCell ⟨zr, 2, none⟩ (.int .i64 (8))).setCell ⟨zr, 3, none⟩ (.int .u32 (0 : Int))).setCell ⟨zr, 4, none⟩ (.int .u8 0)).setCell ⟨zr, 5, none⟩ (.int .i64 0)).drew = w11 at hZ11 hC11 ⊢
      clear p0 p1 p2 p3 p4 p5 r0 r1 r2 r3 r4 r5 fr0 fr1 fr2 fr3 fr4 fr5 zl zl2 zn1 zn2
      repeat go_step
      refine bodyPost_ret (v := .tuple #[.agg (repV (⟨q.client, q.seq, 8, 0, 0, 0⟩ : RepD)).toArray, .bool false]) (results_blk2 (fn := Tryd.f24) (p := 4) (q := 5) (ty := 30) rfl _ zr (repV (⟨q.client, q.seq, 8, 0, 0, 0⟩ : RepD)) 30 (.bool false) rfl rfl hZ11.out row_rep size_rep) rfl ?_
      rw [HD.out]
      exact (X8.out.newer hC11.out (by intro g hg; simp at hg; subst hg; exact D8.out.geR) (by intro g hg hm; simp at hm; subst hm; exact AR2 g hg rfl)).to
    have c6' : ¬ ((64 : Int) ≤ (t.active.length : Int)) := by omega
    by_cases c7 : t.spent = 4294967295
    · have c7' : ((t.spent : Int) == 4294967295) = true := by simp; omega
      have HD := hid (show doT t q = (t, ⟨q.client, q.seq, 8, 0, 0, 0⟩, false) from by rw [HA.out, show actT t q = (t, 0, 8) from by rw [HSUB.out, if_neg (by omega), if_neg c5, if_pos (.inr c7)], if_neg (show ¬ ((8 : Int) = 0) from by decide)]; rfl)
      have f2 := D9d.out.kp.free 2
      go_upto_region 41 with fail
      have D8 := hid (D9d.out.setP (P' := { repQ q with e := 8 }) 2 (.int .i64 8) rfl)
      have X8 := hid (X9d.out.newer (chg_setCell wd zp 2 (.int .i64 8)) (by intro g hg; simp at hg; subst hg; exact D9d.out.geP) (by intro g hg hm; simp at hm; subst hm; exact AP.out g hg rfl))
      clear p2 f2
      generalize (wd.setCell ⟨zp, 2, none⟩ (.int .i64 8)) = w8 at D8 X8 ⊢
      clear q0 q1 q2 q3 q4 q5 q6
      have p2 : w8.cell? ⟨zp, 2, none⟩ = some (.int .i64 (8)) := D8.out.kp.get 2 rfl
      go_upto_region 43 with fail
      clear p2
      have AR2 := AR.out
      have p0 : w8.cell? ⟨zp, 0, none⟩ = some (.int .u8 (q.client : Int)) := D8.out.kp.get 0 rfl
      have p1 : w8.cell? ⟨zp, 1, none⟩ = some (.int .u32 (q.seq : Int)) := D8.out.kp.get 1 rfl
      have p2 : w8.cell? ⟨zp, 2, none⟩ = some (.int .i64 (8)) := D8.out.kp.get 2 rfl
      have p3 : w8.cell? ⟨zp, 3, none⟩ = some (.int .u32 (0 : Int)) := D8.out.kp.get 3 rfl
      have p4 : w8.cell? ⟨zp, 4, none⟩ = some (.int .u8 0) := D8.out.kp.get 4 rfl
      have p5 : w8.cell? ⟨zp, 5, none⟩ = some (.int .i64 0) := D8.out.kp.get 5 rfl
      have r0 := D8.out.kr.get 0 rfl
      have fr0 := D8.out.kr.free 0
      have r1 := D8.out.kr.get 1 rfl
      have fr1 := D8.out.kr.free 1
      have r2 := D8.out.kr.get 2 rfl
      have fr2 := D8.out.kr.free 2
      have r3 := D8.out.kr.get 3 rfl
      have fr3 := D8.out.kr.free 3
      have r4 := D8.out.kr.get 4 rfl
      have fr4 := D8.out.kr.free 4
      have r5 := D8.out.kr.get 5 rfl
      have fr5 := D8.out.kr.free 5
      have zl := D8.out.kr.lt
      have zl2 := D8.out.kp.lt
      have zn1 : zr ≠ zp := Nat.ne_of_lt D8.out.l3
      have zn2 : zp ≠ zr := zn1.symm
      go_region
      have hC11 := hid ((chg_set6 w8 zr 0 (.int .u8 (q.client : Int)) (.int .u32 (q.seq : Int)) (.int .i64 (8)) (.int .u32 (0 : Int)) (.int .u8 0) (.int .i64 0)).trans (Chg.of_below [zr] (below_drew _)))
      have hZ11 := hid (show Blk (set6 w8 zr 0 (.int .u8 (q.client : Int)) (.int .u32 (q.seq : Int)) (.int .i64 (8)) (.int .u32 (0 : Int)) (.int .u8 0) (.int .i64 0)).drew zr (repV (⟨q.client, q.seq, 8, 0, 0, 0⟩ : RepD)) 30 from (blk_set6 D8.out.kr 0 _ _ _ _ _ _).below (below_drew _))
      unfold set6 at hZ11 hC11
      simp only [Nat.zero_add] at hZ11 hC11
      generalize ((((((w8.setCell ⟨zr, 0, none⟩ (.int .u8 (q.client : Int))).setCell ⟨zr, 1, none⟩ (.int .u32 (q.seq : Int))).setCell ⟨zr, 2, none⟩ (.int .i64 (8))).setCell ⟨zr, 3, none⟩ (.int .u32 (0 : Int))).setCell ⟨zr, 4, none⟩ (.int .u8 0)).setCell ⟨zr, 5, none⟩ (.int .i64 0)).drew = w11 at hZ11 hC11 ⊢
      clear p0 p1 p2 p3 p4 p5 r0 r1 r2 r3 r4 r5 fr0 fr1 fr2 fr3 fr4 fr5 zl zl2 zn1 zn2
      repeat go_step
      refine bodyPost_ret (v := .tuple #[.agg (repV (⟨q.client, q.seq, 8, 0, 0, 0⟩ : RepD)).toArray, .bool false]) (results_blk2 (fn := Tryd.f24) (p := 4) (q := 5) (ty := 30) rfl _ zr (repV (⟨q.client, q.seq, 8, 0, 0, 0⟩ : RepD)) 30 (.bool false) rfl rfl hZ11.out row_rep size_rep) rfl ?_
      rw [HD.out]
      exact (X8.out.newer hC11.out (by intro g hg; simp at hg; subst hg; exact D8.out.geR) (by intro g hg hm; simp at hm; subst hm; exact AR2 g hg rfl)).to
    have c7' : ((t.spent : Int) == 4294967295) = false := by simp; omega
    have HACT := hid (show actT t q = ({ t with spent := t.spent + 1, active := t.active ++ [⟨t.spent + 1, q.tier, q.k, q.w, 0, 0⟩] }, t.spent + 1, 0) from by rw [HSUB.out, if_neg (by omega), if_neg c5, if_neg (by omega)])
    have hsp := H.out.ok.spent
    have c7b : (t.spent : Int) + 1 ≤ 4294967295 := by omega
    go_upto_region 28 with fail
    obtain ⟨sp, hsp1⟩ : ∃ sp : Nat, sp = t.spent + 1 := ⟨_, rfl⟩
    rw [show ((t.spent : Int) + 1) = (sp : Int) from by omega]
    rw [← hsp1] at HACT
    clear hsp1
    have T1 := hid (show Blk (wd.setCell ⟨X, 1, none⟩ (.int .u32 (sp : Int))) X (xV { t with spent := sp } (.slice aa t.active.length ca) ov) 100 from X9d.out.isx.own.set 1 _)
    have CS1 := hid (chg_setCell wd X 1 (.int .u32 (sp : Int)))
    have D2 := hid (D9d.out.chg CS1.out (by intro g hg; simp at hg; subst hg; exact H.out.own.lt))
    have ne1 := X9d.out.isx.ne
    obtain ⟨a2, n2, c2x, e2x, hn2, hnc2, hcs2⟩ := X9d.out.isx.act.cs
    simp only [Value.slice.injEq] at e2x
    obtain ⟨rfl, rfl, rfl⟩ := e2x
    have HC2 := hid (hcs2.chg CS1.out (by intro q hq; have h2 := ne1.1; rw [hq] at h2; simpa [Value.ownBlock] using h2))
    have C2 := hid (show Chg (xS X (.slice aa t.active.length ca) ov) w (wd.setCell ⟨X, 1, none⟩ (.int .u32 (sp : Int))) from X9d.out.chg.trans (CS1.out.mono (by intro g hg; simp at hg; subst hg; simp [xS])))
    have O2 := hid (X9d.out.isx.over.chg CS1.out (by intro q hq; have h2 := ne1.2; intro hm; simp at hm; subst hm; exact h2 hq))
    have LW := hid (show w.heap.size ≤ (wd.setCell ⟨X, 1, none⟩ (.int .u32 (sp : Int))).heap.size from C2.out.size)
    have LX := hid H.out.own.lt
    have XG := hid H.out.ge
    clear q0 q1 q2 q3 q4 q5 q6 p2 x1 x2 fx1 hcsa hcs2 hnc2 hn2 CS1
    generalize (wd.setCell ⟨X, 1, none⟩ (.int .u32 (sp : Int))) = w2 at T1 D2 HC2 C2 O2 LW ⊢
    have T2 := hid T1.out
    clear T1 X9d D9d
    obtain ⟨jn, hjn⟩ : ∃ jn : JobD, jn = ⟨sp, q.tier, q.k, q.w, 0, 0⟩ := ⟨_, rfl⟩
    have HACT := hid (show actT t q = ({ t with spent := sp, active := t.active ++ [jn] }, sp, 0) from by rw [HACT.out, hjn])
    refine wp_region_new 22 19 [1, 6, 18] (fun idx v w' => match idx with
      | 0 | 2 | 3 | 7 | 8 | 20 => v = .pointer (some ⟨X, 0, none⟩)
      | 4 | 21 => v = .pointer (some ⟨X, 2, none⟩)
      | 9 => v = .pointer (some ⟨X, 1, none⟩)
      | 5 => v = .slice aa t.active.length ca
      | 10 => v = .int .u32 (sp : Int)
      | 11 => v = .pointer (some ⟨zq, 3, none⟩)
      | 12 => v = .int .u8 (q.tier : Int)
      | 13 => v = .pointer (some ⟨zq, 4, none⟩)
      | 14 => v = .int .i64 q.k
      | 15 => v = .pointer (some ⟨zq, 5, none⟩)
      | 16 => v = .int .i64 q.w
      | 17 => v = .agg (jobV jn).toArray
      | 1 => ∃ b, v = .slice (some ⟨b, 0, none⟩) 0 0 ∧ Blk w' b [] 37 ∧ w2.heap.size ≤ b
      | 6 => RO jobV 6 w' w2.heap.size 37 v t.active
      | 18 => ∃ b, v = .slice (some ⟨b, 0, none⟩) 1 1 ∧ CS w' (some ⟨b, 0, none⟩) 1 6 ([jn].flatMap jobV)
      | 19 => RO jobV 6 w' w2.heap.size 37 v (t.active ++ [jn])
      | _ => True) (by kernel_rfl) (by kernel_rfl) (by kernel_rfl) (by kernel_rfl) ?_ ?_ ?_ ?_
    · intro j v wx wy hR hb
      match j, hR with
      | 0, hR | 2, hR | 3, hR | 4, hR | 5, hR | 7, hR | 8, hR | 9, hR | 10, hR | 11, hR | 12, hR | 13, hR | 14, hR | 15, hR | 16, hR | 17, hR | 20, hR | 21, hR => exact hR
      | 1, hR => exact (by obtain ⟨b, e, h1, h2⟩ := hR; exact ⟨b, e, h1.below hb, h2⟩)
      | 6, hR => exact RO.below hR hb
      | 18, hR => exact (by obtain ⟨b, e, h1⟩ := hR; exact ⟨b, e, h1.below hb⟩)
      | 19, hR => exact RO.below hR hb
      | _ + 22, _ => trivial
    · intro j v wx wy hne hcon hR hb
      match j, hR with
      | 0, hR | 2, hR | 3, hR | 4, hR | 5, hR | 7, hR | 8, hR | 9, hR | 10, hR | 11, hR | 12, hR | 13, hR | 14, hR | 15, hR | 16, hR | 17, hR | 20, hR | 21, hR => exact hR
      | 1, _ => exact absurd hcon (by decide)
      | 6, _ => exact absurd hcon (by decide)
      | 18, _ => exact absurd hcon (by decide)
      | 19, _ => exact (hne rfl).elim
      | _ + 22, _ => trivial
    · refine ⟨?_, ?_, ?_, ?_, ?_, ?_, ?_, ?_, ?_, ?_, ?_, ?_, ?_, ?_, ?_, ?_, ?_, ?_, ?_, ?_, ?_, ?_, trivial⟩
      all_goals intro ρ wx hE hc hg hf
      · intro h0; exact opOk_move _ rfl ⟨Below.refl _ _, h0⟩
      · exact opOk_lit0J rfl fun h => ⟨below_alloc wx _, wx.heap.size, rfl, h, hE.1⟩
      · intro h0; exact opOk_move _ rfl ⟨Below.refl _ _, h0⟩
      · intro (h0 : ρ (.tmp 102) = .pointer (some ⟨X, 0, none⟩))
        exact opOk_run (v := .pointer (some ⟨X, 0, none⟩)) (w' := wx) (by go_simp) ⟨Below.refl _ _, rfl⟩
      · intro (h0 : ρ (.tmp 103) = .pointer (some ⟨X, 0, none⟩))
        exact opOk_run (v := .pointer (some ⟨X, 2, none⟩)) (w' := wx) (by go_simp) ⟨Below.refl _ _, rfl⟩
      · intro (h0 : ρ (.tmp 104) = .pointer (some ⟨X, 2, none⟩))
        have hE0 : Below w2.drew.heap.size w2.drew wx := hE.2 (Nat.le_refl _)
        have c := (T2.out.below ((below_drew _).trans hE0)).get 2 rfl
        exact opOk_load _ _ rfl _ _ h0 (run_jobs_at _ _ _ _ c) ⟨Below.refl _ _, rfl⟩
      · intro ⟨b, h0, hB, hb⟩ (h1 : ρ (.tmp 105) = .slice aa t.active.length ca)
        have hE0 : Below w2.drew.heap.size w2.drew wx := hE.2 (Nat.le_refl _)
        exact opOk_append_lit0J _ _ rfl b h0 hB (l := t.active) (HC2.out.below ((below_drew w2).trans hE0)) rfl hnc h1 (by have := FEW.out; omega) w2.heap.size hb fun v' w' h2 h3 => ⟨h3, h2⟩
      · intro h0; exact opOk_move _ rfl ⟨Below.refl _ _, h0⟩
      · intro (h0 : ρ (.tmp 107) = .pointer (some ⟨X, 0, none⟩))
        exact opOk_run (v := .pointer (some ⟨X, 0, none⟩)) (w' := wx) (by go_simp) ⟨Below.refl _ _, rfl⟩
      · intro (h0 : ρ (.tmp 108) = .pointer (some ⟨X, 0, none⟩))
        exact opOk_run (v := .pointer (some ⟨X, 1, none⟩)) (w' := wx) (by go_simp) ⟨Below.refl _ _, rfl⟩
      · intro (h0 : ρ (.tmp 109) = .pointer (some ⟨X, 1, none⟩))
        have hE0 : Below w2.drew.heap.size w2.drew wx := hE.2 (Nat.le_refl _)
        have c := (T2.out.below ((below_drew _).trans hE0)).get 1 rfl
        exact opOk_load _ _ rfl _ _ h0 (run_u32_at _ _ _ _ c) ⟨Below.refl _ _, rfl⟩
      · intro (h0 : ρ (.tmp 3) = .pointer (some ⟨zq, 0, none⟩))
        exact opOk_run (v := .pointer (some ⟨zq, 3, none⟩)) (w' := wx) (by go_simp) ⟨Below.refl _ _, rfl⟩
      · intro (h0 : ρ (.tmp 111) = .pointer (some ⟨zq, 3, none⟩))
        have hE0 : Below w2.drew.heap.size w2.drew wx := hE.2 (Nat.le_refl _)
        have c := (D2.out.kq.below ((below_drew _).trans hE0)).get 3 rfl
        exact opOk_load _ _ rfl _ _ h0 (run_u8_at _ _ _ _ c) ⟨Below.refl _ _, rfl⟩
      · intro (h0 : ρ (.tmp 3) = .pointer (some ⟨zq, 0, none⟩))
        exact opOk_run (v := .pointer (some ⟨zq, 4, none⟩)) (w' := wx) (by go_simp) ⟨Below.refl _ _, rfl⟩
      · intro (h0 : ρ (.tmp 113) = .pointer (some ⟨zq, 4, none⟩))
        have hE0 : Below w2.drew.heap.size w2.drew wx := hE.2 (Nat.le_refl _)
        have c := (D2.out.kq.below ((below_drew _).trans hE0)).get 4 rfl
        exact opOk_load _ _ rfl _ _ h0 (run_int_at _ _ _ _ c) ⟨Below.refl _ _, rfl⟩
      · intro (h0 : ρ (.tmp 3) = .pointer (some ⟨zq, 0, none⟩))
        exact opOk_run (v := .pointer (some ⟨zq, 5, none⟩)) (w' := wx) (by go_simp) ⟨Below.refl _ _, rfl⟩
      · intro (h0 : ρ (.tmp 115) = .pointer (some ⟨zq, 5, none⟩))
        have hE0 : Below w2.drew.heap.size w2.drew wx := hE.2 (Nat.le_refl _)
        have c := (D2.out.kq.below ((below_drew _).trans hE0)).get 5 rfl
        exact opOk_load _ _ rfl _ _ h0 (run_int_at _ _ _ _ c) ⟨Below.refl _ _, rfl⟩
      · intro (h0 : ρ (.tmp 110) = .int .u32 (sp : Int)) (h1 : ρ (.tmp 112) = .int .u8 (q.tier : Int)) (h2 : ρ (.tmp 114) = .int .i64 q.k) (h3 : ρ (.tmp 116) = .int .i64 q.w)
        exact opOk_run (v := .agg (jobV ⟨sp, q.tier, q.k, q.w, 0, 0⟩).toArray) (w' := wx) (by go_simp; first | done | (simp [jobV])) ⟨Below.refl _ _, (show Value.agg (jobV ⟨sp, q.tier, q.k, q.w, 0, 0⟩).toArray = Value.agg (jobV jn).toArray from by rw [hjn])⟩
      · intro (h0 : ρ (.tmp 117) = .agg (jobV jn).toArray)
        exact opOk_one1J _ rfl _ h0 fun h => ⟨below_alloc wx _, wx.heap.size, rfl, h⟩
      · intro h0 ⟨b, h1, hs⟩
        have hE : Below w2.drew.heap.size w2.drew wx := hE
        exact opOk_appendJs _ _ rfl w2.heap.size _ _ h0 rfl hs rfl (Nat.le_refl _) h1 (by have := FEW.out; simp; omega) hE.size fun v' w' h2 h3 => ⟨⟨h3.size, fun _ => h3⟩, h2⟩
      · intro (h0 : ρ (.tmp 100) = .pointer (some ⟨X, 0, none⟩))
        exact opOk_run (v := .pointer (some ⟨X, 0, none⟩)) (w' := wx) (by go_simp) ⟨Below.refl _ _, rfl⟩
      · intro (h0 : ρ (.tmp 120) = .pointer (some ⟨X, 0, none⟩))
        exact opOk_run (v := .pointer (some ⟨X, 2, none⟩)) (w' := wx) (by go_simp) ⟨Below.refl _ _, rfl⟩
    · intro wz hE
      rintro _ rfl _ _ _ rfl _ rfl _ rfl _ rfl _ _ _ rfl _ rfl _ rfl _ rfl _ rfl _ rfl _ rfl _ rfl _ rfl _ rfl _ rfl _ _ v19 h19 _ rfl _ rfl
      simp only [PutLast, Act.put, List.setIfInBounds_toArray, List.set_cons_succ, List.set_cons_zero]
      have hE3 : Below w2.heap.size w2 wz := hE
      obtain ⟨a19, c19, e19⟩ := ro_slice h19
      rw [List.length_append, List.length_singleton] at e19
      subst e19
      have hXz := T2.out.below hE3
      refine opOk_store 43 (.tmp 121) (.tmp 119) rfl (.pointer (some ⟨X, 2, none⟩)) (.slice a19 (t.active.length + 1) c19) rfl rfl (run_jobs_store wz X 2 _ a19 (t.active.length + 1) c19 (hXz.get 2 rfl) (hXz.free 2)) ?_
      have hC3 := chg_setCell wz X 2 (.slice a19 (t.active.length + 1) c19)
      have lX2 := T2.out.lt
      obtain ⟨t1, ht1⟩ : ∃ t1 : TbD, t1 = { t with spent := sp, active := t.active ++ [jn] } := ⟨_, rfl⟩
      have HL1 := hid (show t1.last = t.last from by rw [ht1])
      have T3 := hid (show Blk (wz.setCell ⟨X, 2, none⟩ (.slice a19 (t.active.length + 1) c19)) X (xV t1 (.slice a19 (t.active.length + 1) c19) ov) 100 from by rw [ht1]; exact hXz.set 2 _)
      have A3 := hid (show RO jobV 6 (wz.setCell ⟨X, 2, none⟩ (.slice a19 (t.active.length + 1) c19)) w2.heap.size 37 (.slice a19 (t.active.length + 1) c19) t1.active from by rw [ht1]; exact h19.chg hC3 (by intro q hq; have := h19.ownBlock q hq; simp; omega))
      have D3 := hid (D2.out.chg ((Chg.of_below [X] hE3).trans hC3) (by intro g hg; simp at hg; subst hg; exact LX.out))
      have O3 := hid (show JR (wz.setCell ⟨X, 2, none⟩ (.slice a19 (t.active.length + 1) c19)) B ov t1.over from by rw [ht1]; exact (O2.out.below hE3).chg hC3 (by intro q hq; have h2 := ne1.2; intro hm; simp at hm; subst hm; exact h2 hq))
      have C3 := hid (C2.out.trans (((Chg.of_below [X] hE3).trans hC3).mono (by intro g hg; simp at hg; subst hg; simp [xS])))
      have P3 := hid (show ∀ q, (Value.slice a19 (t.active.length + 1) c19).ownBlock = some q → w2.heap.size ≤ q ∧ q < (wz.setCell ⟨X, 2, none⟩ (.slice a19 (t.active.length + 1) c19)).heap.size from fun q hq => A3.out.ownBlock q hq)
      have OK3 := hid (show t1.Ok from by have := actT_ok H.out.ok q HQ.out; rw [HACT.out, ← ht1] at this; exact this)
      rw [← ht1] at HACT
      have av'E : ∃ av' : Value, av' = .slice a19 (t.active.length + 1) c19 := ⟨_, rfl⟩
      obtain ⟨av', hav'⟩ := av'E
      obtain ⟨ov', hov'⟩ : ∃ ov' : Value, ov' = ov := ⟨_, rfl⟩
      have X3 := hid (show DoX w (wz.setCell ⟨X, 2, none⟩ (.slice a19 (t.active.length + 1) c19)) B X (.slice aa t.active.length ca) ov av' ov' t1 from by
        rw [hav', hov']
        refine ⟨⟨T3.out, RO.jr A3.out (by have := LW.out; have := LX.out; have := XG.out; omega), O3.out, XG.out, OK3.out⟩, C3.out, fun q hq => ?_⟩
        · rcases List.mem_cons.1 hq with rfl | hq
          · exact .inl (by simp [xS])
          · rcases List.mem_append.1 hq with hq | hq
            · exact .inr (by have := (P3.out q (by simpa using hq)).1; have := LW.out; omega)
            · exact .inl (by simp [xS]; right; right; simpa using hq))
      have away := fun (zz : Nat) (hz : zz < w2.heap.size) (ho : ∀ g ∈ xS X (.slice aa t.active.length ca) ov, g ≠ zz) => (show ∀ g ∈ xS X av' ov', g ≠ zz from by
        intro g hg
        rw [hav', hov'] at hg
        rcases List.mem_cons.1 hg with rfl | hg
        · exact ho _ (by simp [xS])
        · rcases List.mem_append.1 hg with hg | hg
          · have := (P3.out g (by simpa using hg)).1
            omega
          · exact ho g (by simp [xS]; right; right; simpa using hg))
      have AP1 := hid (away zp D2.out.kp.lt AP.out)
      have AR2 := away zr D2.out.kr.lt AR.out
      clear away
      have hspz : t1.spent = sp := by rw [ht1]
      clear h19 hE hE3 hXz hC3 ht1 hav' hov' T3 A3 O3 C3 P3 OK3 D2 T2 HC2 C2 O2
      generalize (wz.setCell ⟨X, 2, none⟩ (.slice a19 (t.active.length + 1) c19)) = w3 at X3 D3 ⊢
      have x1 : w3.cell? ⟨X, 1, none⟩ = some (.int .u32 (sp : Int)) := by rw [← hspz]; exact X3.out.isx.own.get 1 rfl
      have p3 := D3.out.kp.get 3 rfl
      have f3 := D3.out.kp.free 3
      go_upto_region 41 with fail
      have D4 := hid (D3.out.setP (P' := { repQ q with job := sp }) 3 (.int .u32 (sp : Int)) rfl)
      have X4 := hid (X3.out.newer (chg_setCell w3 zp 3 (.int .u32 (sp : Int))) (by intro g hg; simp at hg; subst hg; exact D3.out.geP) (by intro g hg hm; simp at hm; subst hm; exact AP1.out g hg rfl))
      clear x1 p3 f3 D3 X3 hspz hsp hnc c1 c1' c2 c2' c3 c4 c5 c6 c6' c7 c7' c7b lX2 ne1
      generalize (w3.setCell ⟨zp, 3, none⟩ (.int .u32 (sp : Int))) = w4 at D4 X4 ⊢
      have p2 : w4.cell? ⟨zp, 2, none⟩ = some (.int .i64 0) := D4.out.kp.get 2 rfl
      go_upto_region 42 with fail
      have q0 := D4.out.kq.get 0 rfl
      have p0 : w4.cell? ⟨zp, 0, none⟩ = some (.int .u8 (q.client : Int)) := D4.out.kp.get 0 rfl
      have p1 : w4.cell? ⟨zp, 1, none⟩ = some (.int .u32 (q.seq : Int)) := D4.out.kp.get 1 rfl
      have p3 : w4.cell? ⟨zp, 3, none⟩ = some (.int .u32 (sp : Int)) := D4.out.kp.get 3 rfl
      have p4 : w4.cell? ⟨zp, 4, none⟩ = some (.int .u8 0) := D4.out.kp.get 4 rfl
      have p5 : w4.cell? ⟨zp, 5, none⟩ = some (.int .i64 0) := D4.out.kp.get 5 rfl
      have l0 := X4.out.isx.own.get (4 + q.client * 6 + 0) (by rw [x_last X4.out.isx.ok av' ov' HC.out (by omega)]; rfl)
      have fl0 := X4.out.isx.own.free (4 + q.client * 6 + 0)
      have l1 := X4.out.isx.own.get (4 + q.client * 6 + 1) (by rw [x_last X4.out.isx.ok av' ov' HC.out (by omega)]; rfl)
      have fl1 := X4.out.isx.own.free (4 + q.client * 6 + 1)
      have l2 := X4.out.isx.own.get (4 + q.client * 6 + 2) (by rw [x_last X4.out.isx.ok av' ov' HC.out (by omega)]; rfl)
      have fl2 := X4.out.isx.own.free (4 + q.client * 6 + 2)
      have l3 := X4.out.isx.own.get (4 + q.client * 6 + 3) (by rw [x_last X4.out.isx.ok av' ov' HC.out (by omega)]; rfl)
      have fl3 := X4.out.isx.own.free (4 + q.client * 6 + 3)
      have l4 := X4.out.isx.own.get (4 + q.client * 6 + 4) (by rw [x_last X4.out.isx.ok av' ov' HC.out (by omega)]; rfl)
      have fl4 := X4.out.isx.own.free (4 + q.client * 6 + 4)
      have l5 := X4.out.isx.own.get (4 + q.client * 6 + 5) (by rw [x_last X4.out.isx.ok av' ov' HC.out (by omega)]; rfl)
      have fl5 := X4.out.isx.own.free (4 + q.client * 6 + 5)
      rw [Nat.add_zero] at l0 fl0
      have Tl := X4.out.isx.own.lt
      have zl := D4.out.kp.lt
      go_region
      have HD := hid (show doT t q = ({ t1 with last := t1.last.set q.client ⟨q.client, q.seq, 0, sp, 0, 0⟩ }, ⟨q.client, q.seq, 0, sp, 0, 0⟩, true) from by rw [HA.out, HACT.out, if_pos rfl, ← HL1.out]; rfl)
      have HOK := hid (show TbD.Ok { t1 with last := t1.last.set q.client ⟨q.client, q.seq, 0, sp, 0, 0⟩ } from by have := doT_ok H.out.ok q HQ.out; rw [HD.out] at this; exact this)
      obtain ⟨hI10, hC10⟩ := X4.out.isx.keepRep HC.out ⟨q.client, q.seq, 0, sp, 0, 0⟩ (below_drew (set6 w4 X (4 + q.client * 6) (.int .u8 (q.client : Int)) (.int .u32 (q.seq : Int)) (.int .i64 (0)) (.int .u32 (sp : Int)) (.int .u8 0) (.int .i64 0))) HOK.out
      have D10 := hid (show RoBl w.heap.size ((((((w4.setCell ⟨X, 4 + q.client * 6, none⟩ (.int .u8 (q.client : Int))).setCell ⟨X, 4 + q.client * 6 + 1, none⟩ (.int .u32 (q.seq : Int))).setCell ⟨X, 4 + q.client * 6 + 2, none⟩ (.int .i64 (0))).setCell ⟨X, 4 + q.client * 6 + 3, none⟩ (.int .u32 (sp : Int))).setCell ⟨X, 4 + q.client * 6 + 4, none⟩ (.int .u8 0)).setCell ⟨X, 4 + q.client * 6 + 5, none⟩ (.int .i64 0)).drew q zq zr zp repZ ⟨q.client, q.seq, 0, sp, 0, 0⟩ from D4.out.chg hC10 (by intro g hg; simp at hg; subst hg; exact H.out.own.lt))
      have X10 := hid (show DoX w ((((((w4.setCell ⟨X, 4 + q.client * 6, none⟩ (.int .u8 (q.client : Int))).setCell ⟨X, 4 + q.client * 6 + 1, none⟩ (.int .u32 (q.seq : Int))).setCell ⟨X, 4 + q.client * 6 + 2, none⟩ (.int .i64 (0))).setCell ⟨X, 4 + q.client * 6 + 3, none⟩ (.int .u32 (sp : Int))).setCell ⟨X, 4 + q.client * 6 + 4, none⟩ (.int .u8 0)).setCell ⟨X, 4 + q.client * 6 + 5, none⟩ (.int .i64 0)).drew B X _ ov av' ov' { t1 with last := t1.last.set q.client ⟨q.client, q.seq, 0, sp, 0, 0⟩ } from ⟨hI10, X4.out.chg.trans (hC10.mono (by intro g hg; simp at hg; subst hg; simp [xS])), X4.out.own⟩)
      generalize ((((((w4.setCell ⟨X, 4 + q.client * 6, none⟩ (.int .u8 (q.client : Int))).setCell ⟨X, 4 + q.client * 6 + 1, none⟩ (.int .u32 (q.seq : Int))).setCell ⟨X, 4 + q.client * 6 + 2, none⟩ (.int .i64 (0))).setCell ⟨X, 4 + q.client * 6 + 3, none⟩ (.int .u32 (sp : Int))).setCell ⟨X, 4 + q.client * 6 + 4, none⟩ (.int .u8 0)).setCell ⟨X, 4 + q.client * 6 + 5, none⟩ (.int .i64 0)).drew = w10 at D10 X10 ⊢
      clear hI10 hC10 q0 p0 p1 p2 p3 p4 p5 l0 l1 l2 l3 l4 l5 fl0 fl1 fl2 fl3 fl4 fl5 Tl zl D4
      go_upto_region 43 with fail
      have p0 : w10.cell? ⟨zp, 0, none⟩ = some (.int .u8 (q.client : Int)) := D10.out.kp.get 0 rfl
      have p1 : w10.cell? ⟨zp, 1, none⟩ = some (.int .u32 (q.seq : Int)) := D10.out.kp.get 1 rfl
      have p2 : w10.cell? ⟨zp, 2, none⟩ = some (.int .i64 (0)) := D10.out.kp.get 2 rfl
      have p3 : w10.cell? ⟨zp, 3, none⟩ = some (.int .u32 (sp : Int)) := D10.out.kp.get 3 rfl
      have p4 : w10.cell? ⟨zp, 4, none⟩ = some (.int .u8 0) := D10.out.kp.get 4 rfl
      have p5 : w10.cell? ⟨zp, 5, none⟩ = some (.int .i64 0) := D10.out.kp.get 5 rfl
      have r0 := D10.out.kr.get 0 rfl
      have fr0 := D10.out.kr.free 0
      have r1 := D10.out.kr.get 1 rfl
      have fr1 := D10.out.kr.free 1
      have r2 := D10.out.kr.get 2 rfl
      have fr2 := D10.out.kr.free 2
      have r3 := D10.out.kr.get 3 rfl
      have fr3 := D10.out.kr.free 3
      have r4 := D10.out.kr.get 4 rfl
      have fr4 := D10.out.kr.free 4
      have r5 := D10.out.kr.get 5 rfl
      have fr5 := D10.out.kr.free 5
      have zl := D10.out.kr.lt
      have zl2 := D10.out.kp.lt
      have zn1 : zr ≠ zp := Nat.ne_of_lt D10.out.l3
      have zn2 : zp ≠ zr := zn1.symm
      go_region
      have hC11 := hid ((chg_set6 w10 zr 0 (.int .u8 (q.client : Int)) (.int .u32 (q.seq : Int)) (.int .i64 (0)) (.int .u32 (sp : Int)) (.int .u8 0) (.int .i64 0)).trans (Chg.of_below [zr] (below_drew _)))
      have hZ11 := hid (show Blk (set6 w10 zr 0 (.int .u8 (q.client : Int)) (.int .u32 (q.seq : Int)) (.int .i64 (0)) (.int .u32 (sp : Int)) (.int .u8 0) (.int .i64 0)).drew zr (repV (⟨q.client, q.seq, 0, sp, 0, 0⟩ : RepD)) 30 from (blk_set6 D10.out.kr 0 _ _ _ _ _ _).below (below_drew _))
      unfold set6 at hZ11 hC11
      simp only [Nat.zero_add] at hZ11 hC11
      generalize ((((((w10.setCell ⟨zr, 0, none⟩ (.int .u8 (q.client : Int))).setCell ⟨zr, 1, none⟩ (.int .u32 (q.seq : Int))).setCell ⟨zr, 2, none⟩ (.int .i64 (0))).setCell ⟨zr, 3, none⟩ (.int .u32 (sp : Int))).setCell ⟨zr, 4, none⟩ (.int .u8 0)).setCell ⟨zr, 5, none⟩ (.int .i64 0)).drew = w11 at hZ11 hC11 ⊢
      clear p0 p1 p2 p3 p4 p5 r0 r1 r2 r3 r4 r5 fr0 fr1 fr2 fr3 fr4 fr5 zl zl2 zn1 zn2
      repeat go_step
      refine bodyPost_ret (v := .tuple #[.agg (repV (⟨q.client, q.seq, 0, sp, 0, 0⟩ : RepD)).toArray, .bool true]) (results_blk2 (fn := Tryd.f24) (p := 4) (q := 5) (ty := 30) rfl _ zr (repV (⟨q.client, q.seq, 0, sp, 0, 0⟩ : RepD)) 30 (.bool true) rfl rfl hZ11.out row_rep size_rep) rfl ?_
      rw [HD.out]
      exact (X10.out.newer hC11.out (by intro g hg; simp at hg; subst hg; exact D10.out.geR) (by intro g hg hm; simp at hm; subst hm; exact AR2 g hg rfl)).to

end Go.Proofs.YtombndhjoaaaiaaDoor

/- The walks of layer 16: what a nil table answers, the code's and the document's. -/
namespace Go.Proofs.YtombndhjoaaaiaaDoor
open Go.RowKit Go.Quad _root_.Quad _root_.Quad.Ink

set_option maxRecDepth 100000 in
set_option maxHeartbeats 8000000 in
theorem nildo_calls (w : World) (q : ReqD) (_hq : q.Ok) :
    Calls Tryd.prog 11 #[.pointer none, .agg #[.int .u8 (q.client : Int), .int .u32 (q.seq : Int), .int .u8 (q.kind : Int), .int .u8 (q.tier : Int), .int .i64 q.k, .int .i64 q.w, .int .u32 (q.job : Int)]] w fun e w' => e = .returned (doRes ({ repQ q with e := 6 }, false)) ∧ Below w.heap.size w w' := by
  go_enter Tryd.func11, Tryd.ntmps11
  go_upto_region 2 with (first | (refine wpListQ_alloc (o := ⟨some 4, _, _, _, _, _⟩) 30 rfl rfl zrep 6 info_rep ?_) | (refine wpListQ_alloc (o := ⟨some 6, _, _, _, _, _⟩) 30 rfl rfl zrep 6 info_rep ?_) | (refine wpListQ_store_new (o := ⟨none, _, 0, _, _, _⟩) rfl 30 (.tmp 6) (.tmp 15) rfl zrep (repV (repQ q)).toArray rfl rfl size_rep rfl (all_oneCell_toArray (repV_one _)) ?_))
  have k1 := blk_alloc w [.pointer none] 24
  have b1 := below_alloc w (.cells #[.pointer none] 24)
  have b2 := below_alloc (w.alloc (.cells #[.pointer none] 24)) (.cells #[.int .u8 (q.client : Int), .int .u32 (q.seq : Int), .int .u8 (q.kind : Int), .int .u8 (q.tier : Int), .int .i64 q.k, .int .i64 q.w, .int .u32 (q.job : Int)] 34)
  obtain ⟨w2, hw2⟩ : ∃ w2, (w.alloc (.cells #[.pointer none] 24)).alloc (.cells #[.int .u8 (q.client : Int), .int .u32 (q.seq : Int), .int .u8 (q.kind : Int), .int .u8 (q.tier : Int), .int .i64 q.k, .int .i64 q.w, .int .u32 (q.job : Int)] 34) = w2 := ⟨_, rfl⟩
  rw [hw2] at b2 ⊢
  have k2 := k1.below b2
  have B2 := b1.trans (b2.mono b1.size)
  have b3 := below_alloc w2 (.cells zrep 30)
  have k3 := blk_alloc w2 (repV repZ) 30
  have b4 := below_alloc (w2.alloc (.cells zrep 30)) (.cells (repV (repQ q)).toArray 30)
  have k4 := blk_alloc (w2.alloc (.cells zrep 30)) (repV (repQ q)) 30
  have K0 := hid ((k2.below b3).below b4)
  have K3 := hid (k3.below b4)
  have B4 := hid ((B2.trans (b3.mono B2.size)).trans (b4.mono (Nat.le_trans B2.size b3.size)))
  have L2 := B2.size
  have HS := hid (show (w2.alloc (.cells zrep 30)).heap.size = w2.heap.size + 1 from by simp)
  rw [HS.out] at k4
  have K4 := hid k4
  have hzr : w2.heap.size = w.heap.size + 1 + 1 := by rw [← hw2]; simp
  rw [hzr] at HS K3 K4
  simp only [HS.out]
  obtain ⟨zq, hzq⟩ : ∃ zq, w.heap.size = zq := ⟨_, rfl⟩
  rw [hzq] at K3 K4 ⊢
  have hzw := hzq
  rw [hzq] at K0
  clear k1 k2 k3 k4 b1 b2 b3 b4 HS hzr hw2 B2
  generalize ((w2.alloc (.cells zrep 30)).alloc (.cells (repV (repQ q)).toArray 30)) = w4 at K0 K3 K4 B4 ⊢
  have c0 := K0.out.get 0 rfl
  have p2 := K4.out.get 2 rfl
  have f2 := K4.out.free 2
  go_upto_region 4 with fail
  have D8 := hid (show Blk (w4.setCell ⟨(zq + 1 + 1) + 1, 2, none⟩ (.int .i64 6)) ((zq + 1 + 1) + 1) (repV { repQ q with e := 6 }) 30 from K4.out.set 2 (.int .i64 6))
  have R8 := hid (show Blk (w4.setCell ⟨(zq + 1 + 1) + 1, 2, none⟩ (.int .i64 6)) (zq + 1 + 1) (repV repZ) 30 from K3.out.keep (chg_setCell w4 ((zq + 1 + 1) + 1) 2 (.int .i64 6)) (by simp))
  have B8 := hid (blk_below_set B4.out (chg_setCell w4 ((zq + 1 + 1) + 1) 2 (.int .i64 6)) (by omega))
  clear c0 p2 f2 K0 K3 K4 B4
  generalize (w4.setCell ⟨(zq + 1 + 1) + 1, 2, none⟩ (.int .i64 6)) = w8 at D8 R8 B8 ⊢
  repeat (first | (refine wpList_load_blk (o := ⟨some 19, _, _, _, _, _⟩) 30 (.tmp 6) rfl rfl ((zq + 1 + 1) + 1) (repV ({ repQ q with e := 6 })) 30 rfl D8.out row_rep size_rep ?_) | (refine wpList_store_blk (o := ⟨none, _, 0, _, _, _⟩) 30 (.tmp 4) (.tmp 19) rfl rfl (zq + 1 + 1) (repV repZ) (repV ({ repQ q with e := 6 })) 30 rfl rfl R8.out rfl size_rep (repV_one _) ?_; intro w9 hZ9 hC9) | go_step)
  refine bodyPost_ret (v := .tuple #[.agg (repV ({ repQ q with e := 6 })).toArray, .bool false]) (results_blk2 (fn := Tryd.f11) (p := 4) (q := 5) (ty := 30) rfl _ (zq + 1 + 1) (repV ({ repQ q with e := 6 })) 30 (.bool false) rfl rfl hZ9 row_rep size_rep) rfl ?_
  exact ⟨rfl, blk_below_set B8.out hC9 (by omega)⟩

theorem niljbytes_calls (w : World) : Calls Tryd.prog 20 #[.pointer none] w fun e w' => e = .returned (.slice none 0 0) ∧ w' = w := by
  go_enter Tryd.func20, Tryd.ntmps20
  go_wp2_with fail
  go_ret
  exact ⟨rfl, rfl⟩
theorem niljcopy_calls (w : World) : Calls Tryd.prog 18 #[.pointer none] w fun e w' => e = .returned (.pointer none) ∧ w' = w := by
  go_enter Tryd.func18, Tryd.ntmps18
  go_wp2_with fail
  go_ret
  exact ⟨rfl, rfl⟩
theorem nilrcopy_calls (w : World) : Calls Tryd.prog 31 #[.pointer none] w fun e w' => e = .returned (.pointer none) ∧ w' = w := by
  go_enter Tryd.func31, Tryd.ntmps31
  go_wp2_with fail
  go_ret
  exact ⟨rfl, rfl⟩
theorem nilrstate_calls (w : World) (id s : Nat) : Calls Tryd.prog 28 #[.pointer none, .int .u32 (id : Int), .int .u8 (s : Int)] w fun e w' => e = .returned (.int .i64 6) ∧ w' = w := by
  go_enter Tryd.func28, Tryd.ntmps28
  go_wp2_with fail
  go_ret
  exact ⟨rfl, rfl⟩
set_option maxRecDepth 100000 in
set_option maxHeartbeats 8000000 in
theorem nilrjob_calls (w : World) (id : Nat) : Calls Tryd.prog 52 #[.pointer none, .int .u32 (id : Int)] w fun e w' => e = .returned (jobRes none) ∧ Below w.heap.size w w' := by
  obtain ⟨z, hz⟩ : ∃ z, w.heap.size = z := ⟨_, rfl⟩
  have K0 := hid (show Blk (w.alloc (.cells zjob 37)) z (jobV jobZ) 37 from by rw [← hz]; exact blk_alloc w (jobV jobZ) 37)
  have B0 := hid (below_alloc w (.cells zjob 37))
  have Z0 := hid (show w.heap.size ≤ z from Nat.le_of_eq hz)
  go_enter Tryd.func52, Tryd.ntmps52
  go_upto_region 2 with (refine wpListQ_alloc (o := ⟨some 4, _, _, _, _, _⟩) 37 rfl rfl zjob 6 info_job ?_)
  clear hz
  generalize (w.alloc (.cells zjob 37)) = w0 at K0 B0 ⊢
  repeat (first | (refine wpList_store_blk (o := ⟨none, _, 0, _, _, _⟩) 37 (.tmp 4) (.tmp 10) rfl rfl z (jobV jobZ) (jobV jobZ) 37 rfl rfl K0.out rfl size_job (jobV_one _) ?_; intro w9 hZ9 hC9) | go_step)
  refine bodyPost_ret (v := .tuple #[.agg (jobV jobZ).toArray, .bool false]) (results_blk2 (fn := Tryd.f52) (p := 4) (q := 5) (ty := 37) rfl _ z (jobV jobZ) 37 (.bool false) rfl rfl hZ9 row_job size_job) rfl ?_
  exact ⟨rfl, blk_below_set B0.out hC9 Z0.out⟩
set_option maxRecDepth 100000 in
set_option maxHeartbeats 8000000 in
theorem nilrget_calls (w : World) (id : Nat) : Calls Tryd.prog 53 #[.pointer none, .int .u32 (id : Int)] w fun e w' => e = .returned (.tuple #[.int .i64 0, .int .i64 6]) ∧ Below w.heap.size w w' := by
  have hC := hid (nilrjob_calls w id)
  go_enter Tryd.func53, Tryd.ntmps53
  go_wp2_with (first | (go_at_call 52; go_loud (refine hC.out.mono ?_; rintro e w2 ⟨rfl, hb2⟩; have B2 := hid hb2; clear hb2; simp only [jobRes, Option.isSome_none])) | (refine wpListQ_alloc (o := ⟨some 6, _, _, _, _, _⟩) 37 rfl rfl zjob 6 info_job ?_) | (refine wpListQ_store_new (o := ⟨none, _, 0, _, _, _⟩) rfl 37 (.tmp 6) (.tmp 13) rfl zjob (jobV jobZ).toArray rfl rfl size_job rfl (all_oneCell_toArray (jobV_one _)) ?_))
  go_ret2
  exact ⟨rfl, B2.out.trans ((below_alloc w2 _).mono B2.out.size)⟩
set_option maxRecDepth 100000 in
set_option maxHeartbeats 8000000 in
theorem nilrfinish_calls (w : World) (id : Nat) : Calls Tryd.prog 25 #[.pointer none, .int .u32 (id : Int)] w fun e w' => e = .returned (.int .i64 6) ∧ Below w.heap.size w w' := by
  have hC := hid (nilrget_calls w id)
  go_enter Tryd.func25, Tryd.ntmps25
  go_wp2_with (go_at_call 53; go_loud (refine hC.out.mono ?_; rintro e w2 ⟨rfl, hb2⟩; have B2 := hid hb2; clear hb2))
  go_ret
  exact ⟨rfl, B2.out⟩
set_option maxRecDepth 100000 in
set_option maxHeartbeats 8000000 in
theorem nilrcredit_calls (w : World) (id : Nat) (n : Int) : Calls Tryd.prog 26 #[.pointer none, .int .u32 (id : Int), .int .i64 n] w fun e w' => e = .returned (.int .i64 6) ∧ Below w.heap.size w w' := by
  have hC := hid (nilrget_calls w id)
  go_enter Tryd.func26, Tryd.ntmps26
  go_wp2_with (go_at_call 53; go_loud (refine hC.out.mono ?_; rintro e w2 ⟨rfl, hb2⟩; have B2 := hid hb2; clear hb2))
  go_ret
  exact ⟨rfl, B2.out⟩
set_option maxRecDepth 100000 in
set_option maxHeartbeats 8000000 in
theorem nilrdo_calls (w : World) (q : ReqD) :
    Calls Tryd.prog 24 #[.pointer none, .agg #[.int .u8 (q.client : Int), .int .u32 (q.seq : Int), .int .u8 (q.kind : Int), .int .u8 (q.tier : Int), .int .i64 q.k, .int .i64 q.w, .int .u32 (q.job : Int)]] w fun e w' => e = .returned (doRes ({ repQ q with e := 6 }, false)) ∧ Below w.heap.size w w' := by
  go_enter Tryd.func24, Tryd.ntmps24
  go_upto_region 2 with (first | (refine wpListQ_alloc (o := ⟨some 4, _, _, _, _, _⟩) 30 rfl rfl zrep 6 info_rep ?_) | (refine wpListQ_alloc (o := ⟨some 6, _, _, _, _, _⟩) 30 rfl rfl zrep 6 info_rep ?_) | (refine wpListQ_store_new (o := ⟨none, _, 0, _, _, _⟩) rfl 30 (.tmp 6) (.tmp 16) rfl zrep (repV (repQ q)).toArray rfl rfl size_rep rfl (all_oneCell_toArray (repV_one _)) ?_))
  have b1 := below_alloc w (.cells #[.int .u8 (q.client : Int), .int .u32 (q.seq : Int), .int .u8 (q.kind : Int), .int .u8 (q.tier : Int), .int .i64 q.k, .int .i64 q.w, .int .u32 (q.job : Int)] 34)
  obtain ⟨w2, hw2⟩ : ∃ w2, (w.alloc (.cells #[.int .u8 (q.client : Int), .int .u32 (q.seq : Int), .int .u8 (q.kind : Int), .int .u8 (q.tier : Int), .int .i64 q.k, .int .i64 q.w, .int .u32 (q.job : Int)] 34)) = w2 := ⟨_, rfl⟩
  rw [hw2] at b1 ⊢
  have b3 := below_alloc w2 (.cells zrep 30)
  have k3 := blk_alloc w2 (repV repZ) 30
  have b4 := below_alloc (w2.alloc (.cells zrep 30)) (.cells (repV (repQ q)).toArray 30)
  have k4 := blk_alloc (w2.alloc (.cells zrep 30)) (repV (repQ q)) 30
  have K3 := hid (k3.below b4)
  have B4 := hid ((b1.trans (b3.mono b1.size)).trans (b4.mono (Nat.le_trans b1.size b3.size)))
  have L2 := b1.size
  have HS := hid (show (w2.alloc (.cells zrep 30)).heap.size = w2.heap.size + 1 from by simp)
  rw [HS.out] at k4
  have K4 := hid k4
  have hzr : w2.heap.size = w.heap.size + 1 := by rw [← hw2]; simp
  rw [hzr] at HS K3 K4
  simp only [HS.out]
  obtain ⟨zq, hzq⟩ : ∃ zq, w.heap.size = zq := ⟨_, rfl⟩
  rw [hzq] at K3 K4 ⊢
  have hzw := hzq
  clear k3 k4 b1 b3 b4 HS hzr hw2
  generalize ((w2.alloc (.cells zrep 30)).alloc (.cells (repV (repQ q)).toArray 30)) = w4 at K3 K4 B4 ⊢
  have p2 := K4.out.get 2 rfl
  have f2 := K4.out.free 2
  go_upto_region 4 with fail
  have D8 := hid (show Blk (w4.setCell ⟨(zq + 1) + 1, 2, none⟩ (.int .i64 6)) ((zq + 1) + 1) (repV { repQ q with e := 6 }) 30 from K4.out.set 2 (.int .i64 6))
  have R8 := hid (show Blk (w4.setCell ⟨(zq + 1) + 1, 2, none⟩ (.int .i64 6)) (zq + 1) (repV repZ) 30 from K3.out.keep (chg_setCell w4 ((zq + 1) + 1) 2 (.int .i64 6)) (by simp))
  have B8 := hid (blk_below_set B4.out (chg_setCell w4 ((zq + 1) + 1) 2 (.int .i64 6)) (by omega))
  clear p2 f2 K3 K4 B4
  generalize (w4.setCell ⟨(zq + 1) + 1, 2, none⟩ (.int .i64 6)) = w8 at D8 R8 B8 ⊢
  repeat (first | (refine wpList_load_blk (o := ⟨some 20, _, _, _, _, _⟩) 30 (.tmp 6) rfl rfl ((zq + 1) + 1) (repV ({ repQ q with e := 6 })) 30 rfl D8.out row_rep size_rep ?_) | (refine wpList_store_blk (o := ⟨none, _, 0, _, _, _⟩) 30 (.tmp 4) (.tmp 20) rfl rfl (zq + 1) (repV repZ) (repV ({ repQ q with e := 6 })) 30 rfl rfl R8.out rfl size_rep (repV_one _) ?_; intro w9 hZ9 hC9) | go_step)
  refine bodyPost_ret (v := .tuple #[.agg (repV ({ repQ q with e := 6 })).toArray, .bool false]) (results_blk2 (fn := Tryd.f24) (p := 4) (q := 5) (ty := 30) rfl _ (zq + 1) (repV ({ repQ q with e := 6 })) 30 (.bool false) rfl rfl hZ9 row_rep size_rep) rfl ?_
  exact ⟨rfl, blk_below_set B8.out hC9 (by omega)⟩
end Go.Proofs.YtombndhjoaaaiaaDoor
