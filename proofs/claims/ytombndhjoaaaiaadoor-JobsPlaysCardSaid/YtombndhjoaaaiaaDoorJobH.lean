/- The walks of layer 16: a request. -/
import Derived.Test.YtombndhjoaaaiaaDoorJobG
namespace Go.Proofs.YtombndhjoaaaiaaDoor
open Go.RowKit Go.Quad _root_.Quad _root_.Quad.Ink

set_option maxRecDepth 100000 in
set_option maxHeartbeats 4000000 in
theorem do1_calls (w : World) (B T b : Nat) (ov : Value) (t : TbD) (q : ReqD) (h : IsTb w B T b ov t) (hq : q.Ok) (gt gq : Nat) (hgt : Blk w gt [.pointer (some ⟨T, 0, none⟩)] 24) (hgq : Blk w gq (reqV q) 34) :
    Calls Tryd.prog 36 #[.pointer (some ⟨gt, 0, none⟩), .pointer (some ⟨gq, 0, none⟩)] w (TbTo w B T b ov (submitT t q).1 (actRes (submitT t q).2)) := by
  have hC := hid (submit_calls w B T b ov t q h hq)
  have c0 := hgt.get 0 rfl
  have q0 := hgq.get 0 rfl
  have q1 := hgq.get 1 rfl
  have q2 := hgq.get 2 rfl
  have q3 := hgq.get 3 rfl
  have q4 := hgq.get 4 rfl
  have q5 := hgq.get 5 rfl
  have q6 := hgq.get 6 rfl
  clear h hgt hgq
  go_enter Tryd.func36, Tryd.ntmps36
  go_wp2_with (go_at_call 37; go_loud (refine hC.out.mono ?_; intro e w8 h8; have H8 := hid h8; obtain ⟨rfl, _⟩ := h8; simp only [actRes]))
  go_ret2
  exact H8.out

set_option maxRecDepth 100000 in
set_option maxHeartbeats 4000000 in
theorem do2_calls (w : World) (B T b : Nat) (ov : Value) (t : TbD) (q : ReqD) (h : IsTb w B T b ov t) (hq : q.Ok) (gt gq : Nat) (hgt : Blk w gt [.pointer (some ⟨T, 0, none⟩)] 24) (hgq : Blk w gq (reqV q) 34) :
    Calls Tryd.prog 38 #[.pointer (some ⟨gt, 0, none⟩), .pointer (some ⟨gq, 0, none⟩)] w (TbTo w B T b ov (cancelT t q.job).1 (actRes (cancelT t q.job).2)) := by
  have hC := hid (cancel_calls w B T b ov t q.job h hq.job)
  have c0 := hgt.get 0 rfl
  have q0 := hgq.get 0 rfl
  have q1 := hgq.get 1 rfl
  have q2 := hgq.get 2 rfl
  have q3 := hgq.get 3 rfl
  have q4 := hgq.get 4 rfl
  have q5 := hgq.get 5 rfl
  have q6 := hgq.get 6 rfl
  clear h hgt hgq
  go_enter Tryd.func38, Tryd.ntmps38
  go_wp2_with (go_at_call 39; go_loud (refine hC.out.mono ?_; intro e w8 h8; have H8 := hid h8; obtain ⟨rfl, _⟩ := h8; simp only [actRes]))
  go_ret2
  exact H8.out

def doRes (r : RepD × Bool) : Value := .tuple #[.agg (repV r.1).toArray, .bool r.2]
/-- what a request's own blocks hold -/
structure DoBl (Z : Nat) (w : World) (T : Nat) (q : ReqD) (z zq zr zp : Nat) (R P : RepD) : Prop where
  kt : Blk w z [.pointer (some ⟨T, 0, none⟩)] 24
  kq : Blk w zq (reqV q) 34
  kr : Blk w zr (repV R) 30
  kp : Blk w zp (repV P) 30
  ge : Z ≤ z
  l1 : z < zq
  l2 : zq < zr
  l3 : zr < zp
theorem DoBl.chg {Z : Nat} {w w' : World} {T : Nat} {q : ReqD} {z zq zr zp : Nat} {R P : RepD} {S : List Nat} (h : DoBl Z w T q z zq zr zp R P) (hc : Chg S w w') (hS : ∀ k ∈ S, k < Z) : DoBl Z w' T q z zq zr zp R P := by
  have h1 := h.ge; have h2 := h.l1; have h3 := h.l2; have h4 := h.l3
  exact ⟨h.kt.keep hc (fun m => by have := hS _ m; omega), h.kq.keep hc (fun m => by have := hS _ m; omega), h.kr.keep hc (fun m => by have := hS _ m; omega), h.kp.keep hc (fun m => by have := hS _ m; omega), h1, h2, h3, h4⟩
theorem DoBl.below {Z : Nat} {w w' : World} {T : Nat} {q : ReqD} {z zq zr zp : Nat} {R P : RepD} (h : DoBl Z w T q z zq zr zp R P) (hb : Below w.heap.size w w') : DoBl Z w' T q z zq zr zp R P := h.chg (Chg.of_below [] hb) (by simp)
theorem DoBl.setP {Z : Nat} {w : World} {T : Nat} {q : ReqD} {z zq zr zp : Nat} {R P : RepD} (h : DoBl Z w T q z zq zr zp R P) {P' : RepD} (i : Nat) (v : Value) (e : (repV P).set i v = repV P') : DoBl Z (w.setCell ⟨zp, i, none⟩ v) T q z zq zr zp R P' := by
  have h1 := h.ge; have h2 := h.l1; have h3 := h.l2; have h4 := h.l3
  have hc := chg_setCell w zp i v
  exact ⟨h.kt.keep hc (by simp; omega), h.kq.keep hc (by simp; omega), h.kr.keep hc (by simp; omega), e ▸ h.kp.set i v, h1, h2, h3, h4⟩
theorem DoBl.geP {Z : Nat} {w : World} {T : Nat} {q : ReqD} {z zq zr zp : Nat} {R P : RepD} (h : DoBl Z w T q z zq zr zp R P) : Z ≤ zp := by
  have h1 := h.ge; have h2 := h.l1; have h3 := h.l2; have h4 := h.l3; omega
theorem DoBl.geR {Z : Nat} {w : World} {T : Nat} {q : ReqD} {z zq zr zp : Nat} {R P : RepD} (h : DoBl Z w T q z zq zr zp R P) : Z ≤ zr := by
  have h1 := h.ge; have h2 := h.l1; have h3 := h.l2; omega
def set6 (w : World) (g o : Nat) (a b c d e f : Value) : World := (((((w.setCell ⟨g, o, none⟩ a).setCell ⟨g, o + 1, none⟩ b).setCell ⟨g, o + 2, none⟩ c).setCell ⟨g, o + 3, none⟩ d).setCell ⟨g, o + 4, none⟩ e).setCell ⟨g, o + 5, none⟩ f
theorem chg_set6 (w : World) (g o : Nat) (a b c d e f : Value) : Chg [g] w (set6 w g o a b c d e f) :=
  (((((chg_setCell w g _ a).trans (chg_setCell _ g _ b)).trans (chg_setCell _ g _ c)).trans (chg_setCell _ g _ d)).trans (chg_setCell _ g _ e)).trans (chg_setCell _ g _ f)
theorem blk_set6 {w : World} {g : Nat} {cs : List Value} {t : TypeId} (h : Blk w g cs t) (o : Nat) (a b c d e f : Value) : Blk (set6 w g o a b c d e f) g ((((((cs.set o a).set (o + 1) b).set (o + 2) c).set (o + 3) d).set (o + 4) e).set (o + 5) f) t :=
  (((((h.set o a).set (o + 1) b).set (o + 2) c).set (o + 3) d).set (o + 4) e).set (o + 5) f
theorem tb_set1 {t : TbD} (_hl : t.last.length = 8) (b : Nat) (ov : Value) {c : Nat} (hc : c < 8) {j : Nat} (hj : j < 6) (x x' : RepD) (v : Value) (hx : t.last[c]? = some x) (he : repV x' = (repV x).set j v) :
    (tbV t b ov).set (4 + c * 6 + j) v = tbV { t with last := t.last.set c x' } b ov := by
  unfold tbV
  rw [List.set_append_right _ _ (by show 4 ≤ 4 + c * 6 + j; omega)]
  rw [show 4 + c * 6 + j - [Value.int .i64 t.nodes, .int .u32 (t.spent : Int), .map (some b), ov].length = c * 6 + j from by show 4 + c * 6 + j - 4 = _; omega]
  rw [flat_set repV 6 repV_length t.last c j x x' v hx hj he]
theorem tb_set6 {t : TbD} (hl : t.last.length = 8) (b : Nat) (ov : Value) {c : Nat} (hc : c < 8) (r : RepD) :
    (((((((tbV t b ov).set (4 + c * 6) (.int .u8 (r.client : Int))).set (4 + c * 6 + 1) (.int .u32 (r.seq : Int))).set (4 + c * 6 + 2) (.int .i64 r.e)).set (4 + c * 6 + 3) (.int .u32 (r.job : Int))).set (4 + c * 6 + 4) (.int .u8 (r.state : Int))).set (4 + c * 6 + 5) (.int .i64 r.credit)) = tbV { t with last := t.last.set c r } b ov := by
  obtain ⟨x, hx⟩ : ∃ x, t.last[c]? = some x := ⟨_, List.getElem?_eq_getElem (by omega)⟩
  have hs : ∀ (l : List RepD) (y : RepD), l.length = 8 → (l.set c y)[c]? = some y := fun l y h => by rw [List.getElem?_set_self (by omega)]
  have e0 := tb_set1 (t := t) (by simp [hl]) b ov hc (j := 0) (by omega) x (⟨r.client, x.seq, x.e, x.job, x.state, x.credit⟩ : RepD) (.int .u8 (r.client : Int)) hx rfl
  have e1 := tb_set1 (t := ({ t with last := (t.last.set c (⟨r.client, x.seq, x.e, x.job, x.state, x.credit⟩ : RepD)) } : TbD)) (by simp [hl]) b ov hc (j := 1) (by omega) (⟨r.client, x.seq, x.e, x.job, x.state, x.credit⟩ : RepD) (⟨r.client, r.seq, x.e, x.job, x.state, x.credit⟩ : RepD) (.int .u32 (r.seq : Int)) (hs t.last (⟨r.client, x.seq, x.e, x.job, x.state, x.credit⟩ : RepD) (by simp [hl])) rfl
  have e2 := tb_set1 (t := ({ t with last := ((t.last.set c (⟨r.client, x.seq, x.e, x.job, x.state, x.credit⟩ : RepD)).set c (⟨r.client, r.seq, x.e, x.job, x.state, x.credit⟩ : RepD)) } : TbD)) (by simp [hl]) b ov hc (j := 2) (by omega) (⟨r.client, r.seq, x.e, x.job, x.state, x.credit⟩ : RepD) (⟨r.client, r.seq, r.e, x.job, x.state, x.credit⟩ : RepD) (.int .i64 r.e) (hs (t.last.set c (⟨r.client, x.seq, x.e, x.job, x.state, x.credit⟩ : RepD)) (⟨r.client, r.seq, x.e, x.job, x.state, x.credit⟩ : RepD) (by simp [hl])) rfl
  have e3 := tb_set1 (t := ({ t with last := (((t.last.set c (⟨r.client, x.seq, x.e, x.job, x.state, x.credit⟩ : RepD)).set c (⟨r.client, r.seq, x.e, x.job, x.state, x.credit⟩ : RepD)).set c (⟨r.client, r.seq, r.e, x.job, x.state, x.credit⟩ : RepD)) } : TbD)) (by simp [hl]) b ov hc (j := 3) (by omega) (⟨r.client, r.seq, r.e, x.job, x.state, x.credit⟩ : RepD) (⟨r.client, r.seq, r.e, r.job, x.state, x.credit⟩ : RepD) (.int .u32 (r.job : Int)) (hs ((t.last.set c (⟨r.client, x.seq, x.e, x.job, x.state, x.credit⟩ : RepD)).set c (⟨r.client, r.seq, x.e, x.job, x.state, x.credit⟩ : RepD)) (⟨r.client, r.seq, r.e, x.job, x.state, x.credit⟩ : RepD) (by simp [hl])) rfl
  have e4 := tb_set1 (t := ({ t with last := ((((t.last.set c (⟨r.client, x.seq, x.e, x.job, x.state, x.credit⟩ : RepD)).set c (⟨r.client, r.seq, x.e, x.job, x.state, x.credit⟩ : RepD)).set c (⟨r.client, r.seq, r.e, x.job, x.state, x.credit⟩ : RepD)).set c (⟨r.client, r.seq, r.e, r.job, x.state, x.credit⟩ : RepD)) } : TbD)) (by simp [hl]) b ov hc (j := 4) (by omega) (⟨r.client, r.seq, r.e, r.job, x.state, x.credit⟩ : RepD) (⟨r.client, r.seq, r.e, r.job, r.state, x.credit⟩ : RepD) (.int .u8 (r.state : Int)) (hs (((t.last.set c (⟨r.client, x.seq, x.e, x.job, x.state, x.credit⟩ : RepD)).set c (⟨r.client, r.seq, x.e, x.job, x.state, x.credit⟩ : RepD)).set c (⟨r.client, r.seq, r.e, x.job, x.state, x.credit⟩ : RepD)) (⟨r.client, r.seq, r.e, r.job, x.state, x.credit⟩ : RepD) (by simp [hl])) rfl
  have e5 := tb_set1 (t := ({ t with last := (((((t.last.set c (⟨r.client, x.seq, x.e, x.job, x.state, x.credit⟩ : RepD)).set c (⟨r.client, r.seq, x.e, x.job, x.state, x.credit⟩ : RepD)).set c (⟨r.client, r.seq, r.e, x.job, x.state, x.credit⟩ : RepD)).set c (⟨r.client, r.seq, r.e, r.job, x.state, x.credit⟩ : RepD)).set c (⟨r.client, r.seq, r.e, r.job, r.state, x.credit⟩ : RepD)) } : TbD)) (by simp [hl]) b ov hc (j := 5) (by omega) (⟨r.client, r.seq, r.e, r.job, r.state, x.credit⟩ : RepD) (⟨r.client, r.seq, r.e, r.job, r.state, r.credit⟩ : RepD) (.int .i64 r.credit) (hs ((((t.last.set c (⟨r.client, x.seq, x.e, x.job, x.state, x.credit⟩ : RepD)).set c (⟨r.client, r.seq, x.e, x.job, x.state, x.credit⟩ : RepD)).set c (⟨r.client, r.seq, r.e, x.job, x.state, x.credit⟩ : RepD)).set c (⟨r.client, r.seq, r.e, r.job, x.state, x.credit⟩ : RepD)) (⟨r.client, r.seq, r.e, r.job, r.state, x.credit⟩ : RepD) (by simp [hl])) rfl
  rw [Nat.add_zero] at e0
  rw [e0, e1, e2, e3, e4, e5]
  simp only [List.set_set]
theorem tbs_away {w w7 : World} {B T b : Nat} {ov ov' : Value} {t : TbD} (H : IsTb w B T b ov t) (hown : ∀ k, ov'.ownBlock = some k → k ∈ tbS T b ov ∨ w7.heap.size ≤ k) {g : Nat} (h1 : w.heap.size ≤ g) (h2 : g < w7.heap.size) : ∀ k ∈ tbS T b ov', k ∉ [g] := by
  intro k hk hm
  simp at hm
  subst hm
  have hlt := H.lt
  rcases List.mem_cons.1 hk with rfl | hk
  · have := (hlt k (by simp [tbS])).2; omega
  · rcases List.mem_cons.1 hk with rfl | hk
    · have := (hlt k (by simp [tbS])).2; omega
    · rcases hown k (by simpa using hk) with h | h
      · have := (hlt k h).2; omega
      · omega
/-- a table, once a reply has been kept -/
theorem IsTb.keepRep {w w' : World} {B T b : Nat} {ov : Value} {t : TbD} (h : IsTb w B T b ov t) {c : Nat} (hc : c < 8) (r : RepD) (hb : Below (set6 w T (4 + c * 6) (.int .u8 (r.client : Int)) (.int .u32 (r.seq : Int)) (.int .i64 r.e) (.int .u32 (r.job : Int)) (.int .u8 (r.state : Int)) (.int .i64 r.credit)).heap.size (set6 w T (4 + c * 6) (.int .u8 (r.client : Int)) (.int .u32 (r.seq : Int)) (.int .i64 r.e) (.int .u32 (r.job : Int)) (.int .u8 (r.state : Int)) (.int .i64 r.credit)) w') (hok : TbD.Ok { t with last := t.last.set c r }) :
    IsTb w' B T b ov { t with last := t.last.set c r } ∧ Chg [T] w w' := by
  have hC := (chg_set6 w T (4 + c * 6) (.int .u8 (r.client : Int)) (.int .u32 (r.seq : Int)) (.int .i64 r.e) (.int .u32 (r.job : Int)) (.int .u8 (r.state : Int)) (.int .i64 r.credit)).trans (Chg.of_below [T] hb)
  have hK := (blk_set6 h.own (4 + c * 6) (.int .u8 (r.client : Int)) (.int .u32 (r.seq : Int)) (.int .i64 r.e) (.int .u32 (r.job : Int)) (.int .u8 (r.state : Int)) (.int .i64 r.credit)).below hb
  rw [tb_set6 h.ok.last b ov hc r] at hK
  obtain ⟨D, hD, hM⟩ := h.map
  have hne := h.ne
  exact ⟨⟨hK, ⟨D, owns_block hD (hC.block b hD.lt (by simp; exact hne.1.symm)), hM⟩, h.over.chg hC (by intro k hk hm; simp at hm; subst hm; exact hne.2.1 hk), h.ge, hok⟩, hC⟩
theorem reqL_client {q : ReqD} (h : (reqL q).2 = 0) : q.client < 8 := by
  unfold reqL at h
  split at h
  · rename_i hf
    unfold formQ at hf
    simp only [Bool.and_eq_true, decide_eq_true_eq] at hf
    exact hf.1.1.1
  · exact absurd h (by show ¬ ((4 : Int) = 0); decide)

set_option maxRecDepth 100000 in
set_option maxHeartbeats 4000000 in
theorem do_calls (w : World) (B T b : Nat) (ov : Value) (t : TbD) (q : ReqD) (h : IsTb w B T b ov t) (hq : q.Ok) (hl : Laid w) :
    Calls Tryd.prog 11 #[.pointer (some ⟨T, 0, none⟩), .agg #[.int .u8 (q.client : Int), .int .u32 (q.seq : Int), .int .u8 (q.kind : Int), .int .u8 (q.tier : Int), .int .i64 q.k, .int .i64 q.w, .int .u32 (q.job : Int)]] w (TbTo w B T b ov (doT t q).1 (doRes (doT t q).2)) := by
  obtain ⟨z, hz⟩ : ∃ z, w.heap.size = z := ⟨_, rfl⟩
  have Zs := hid hz
  have H := hid h
  have HL := hid hl
  have HQ := hid hq
  go_enter Tryd.func11, Tryd.ntmps11
  go_upto_region 2 with (first | (refine wpListQ_alloc (o := ⟨some 4, _, _, _, _, _⟩) 30 rfl rfl zrep 6 info_rep ?_) | (refine wpListQ_alloc (o := ⟨some 6, _, _, _, _, _⟩) 30 rfl rfl zrep 6 info_rep ?_) | (refine wpListQ_store_new (o := ⟨none, _, 0, _, _, _⟩) rfl 30 (.tmp 6) (.tmp 15) rfl zrep (repV (repQ q)).toArray rfl rfl size_rep rfl (all_oneCell_toArray (repV_one _)) ?_))
  obtain ⟨zq, hzq⟩ : ∃ zq, zq = z + 1 := ⟨_, rfl⟩
  obtain ⟨zr, hzr⟩ : ∃ zr, zr = zq + 1 := ⟨_, rfl⟩
  obtain ⟨zp, hzp⟩ : ∃ zp, zp = zr + 1 := ⟨_, rfl⟩
  have HS := hid (show (((w.alloc (.cells #[.pointer (some ⟨T, 0, none⟩)] 24)).alloc (.cells #[.int .u8 (q.client : Int), .int .u32 (q.seq : Int), .int .u8 (q.kind : Int), .int .u8 (q.tier : Int), .int .i64 q.k, .int .i64 q.w, .int .u32 (q.job : Int)] 34)).alloc (.cells zrep 30)).heap.size = zp from by simp [hzp, hzr, hzq, hz])
  have D4 := hid (show DoBl w.heap.size ((((w.alloc (.cells #[.pointer (some ⟨T, 0, none⟩)] 24)).alloc (.cells #[.int .u8 (q.client : Int), .int .u32 (q.seq : Int), .int .u8 (q.kind : Int), .int .u8 (q.tier : Int), .int .i64 q.k, .int .i64 q.w, .int .u32 (q.job : Int)] 34)).alloc (.cells zrep 30)).alloc (.cells (repV (repQ q)).toArray 30)) T q z zq zr zp repZ (repQ q) from by
    have b1 := below_alloc w (.cells #[.pointer (some ⟨T, 0, none⟩)] 24)
    have k1 := blk_alloc w [.pointer (some ⟨T, 0, none⟩)] 24
    have b2 := below_alloc (w.alloc (.cells #[.pointer (some ⟨T, 0, none⟩)] 24)) (.cells #[.int .u8 (q.client : Int), .int .u32 (q.seq : Int), .int .u8 (q.kind : Int), .int .u8 (q.tier : Int), .int .i64 q.k, .int .i64 q.w, .int .u32 (q.job : Int)] 34)
    have k2 := blk_alloc (w.alloc (.cells #[.pointer (some ⟨T, 0, none⟩)] 24)) (reqV q) 34
    have b3 := below_alloc ((w.alloc (.cells #[.pointer (some ⟨T, 0, none⟩)] 24)).alloc (.cells #[.int .u8 (q.client : Int), .int .u32 (q.seq : Int), .int .u8 (q.kind : Int), .int .u8 (q.tier : Int), .int .i64 q.k, .int .i64 q.w, .int .u32 (q.job : Int)] 34)) (.cells zrep 30)
    have k3 := blk_alloc ((w.alloc (.cells #[.pointer (some ⟨T, 0, none⟩)] 24)).alloc (.cells #[.int .u8 (q.client : Int), .int .u32 (q.seq : Int), .int .u8 (q.kind : Int), .int .u8 (q.tier : Int), .int .i64 q.k, .int .i64 q.w, .int .u32 (q.job : Int)] 34)) (repV repZ) 30
    have b4 := below_alloc (((w.alloc (.cells #[.pointer (some ⟨T, 0, none⟩)] 24)).alloc (.cells #[.int .u8 (q.client : Int), .int .u32 (q.seq : Int), .int .u8 (q.kind : Int), .int .u8 (q.tier : Int), .int .i64 q.k, .int .i64 q.w, .int .u32 (q.job : Int)] 34)).alloc (.cells zrep 30)) (.cells (repV (repQ q)).toArray 30)
    have k4 := blk_alloc (((w.alloc (.cells #[.pointer (some ⟨T, 0, none⟩)] 24)).alloc (.cells #[.int .u8 (q.client : Int), .int .u32 (q.seq : Int), .int .u8 (q.kind : Int), .int .u8 (q.tier : Int), .int .i64 q.k, .int .i64 q.w, .int .u32 (q.job : Int)] 34)).alloc (.cells zrep 30)) (repV (repQ q)) 30
    rw [HS.out] at k4
    rw [show ((w.alloc (.cells #[.pointer (some ⟨T, 0, none⟩)] 24)).alloc (.cells #[.int .u8 (q.client : Int), .int .u32 (q.seq : Int), .int .u8 (q.kind : Int), .int .u8 (q.tier : Int), .int .i64 q.k, .int .i64 q.w, .int .u32 (q.job : Int)] 34)).heap.size = zr from by simp [hzr, hzq, hz]] at k3
    rw [show (w.alloc (.cells #[.pointer (some ⟨T, 0, none⟩)] 24)).heap.size = zq from by simp [hzq, hz]] at k2
    rw [hz] at k1
    exact ⟨((k1.below b2).below b3).below b4, (k2.below b3).below b4, k3.below b4, k4, by omega, by omega, by omega, by omega⟩)
  have B4 := hid (show Below w.heap.size w ((((w.alloc (.cells #[.pointer (some ⟨T, 0, none⟩)] 24)).alloc (.cells #[.int .u8 (q.client : Int), .int .u32 (q.seq : Int), .int .u8 (q.kind : Int), .int .u8 (q.tier : Int), .int .i64 q.k, .int .i64 q.w, .int .u32 (q.job : Int)] 34)).alloc (.cells zrep 30)).alloc (.cells (repV (repQ q)).toArray 30)) from by
    have b1 := below_alloc w (.cells #[.pointer (some ⟨T, 0, none⟩)] 24)
    have b2 := below_alloc (w.alloc (.cells #[.pointer (some ⟨T, 0, none⟩)] 24)) (.cells #[.int .u8 (q.client : Int), .int .u32 (q.seq : Int), .int .u8 (q.kind : Int), .int .u8 (q.tier : Int), .int .i64 q.k, .int .i64 q.w, .int .u32 (q.job : Int)] 34)
    have b3 := below_alloc ((w.alloc (.cells #[.pointer (some ⟨T, 0, none⟩)] 24)).alloc (.cells #[.int .u8 (q.client : Int), .int .u32 (q.seq : Int), .int .u8 (q.kind : Int), .int .u8 (q.tier : Int), .int .i64 q.k, .int .i64 q.w, .int .u32 (q.job : Int)] 34)) (.cells zrep 30)
    have b4 := below_alloc (((w.alloc (.cells #[.pointer (some ⟨T, 0, none⟩)] 24)).alloc (.cells #[.int .u8 (q.client : Int), .int .u32 (q.seq : Int), .int .u8 (q.kind : Int), .int .u8 (q.tier : Int), .int .i64 q.k, .int .i64 q.w, .int .u32 (q.job : Int)] 34)).alloc (.cells zrep 30)) (.cells (repV (repQ q)).toArray 30)
    have c2 := b1.trans (b2.mono b1.size)
    have c3 := c2.trans (b3.mono c2.size)
    exact c3.trans (b4.mono c3.size))
  simp only [HS.out]
  rw [← hzq, ← hzr]
  clear hzq hzr hzp h hl hz hq
  clear HS
  generalize ((((w.alloc (.cells #[.pointer (some ⟨T, 0, none⟩)] 24)).alloc (.cells #[.int .u8 (q.client : Int), .int .u32 (q.seq : Int), .int .u8 (q.kind : Int), .int .u8 (q.tier : Int), .int .i64 q.k, .int .i64 q.w, .int .u32 (q.job : Int)] 34)).alloc (.cells zrep 30)).alloc (.cells (repV (repQ q)).toArray 30)) = w4 at D4 B4 ⊢
  have t0 := D4.out.kt.get 0 rfl
  have q0 := D4.out.kq.get 0 rfl
  have q1 := D4.out.kq.get 1 rfl
  have q2 := D4.out.kq.get 2 rfl
  have q3 := D4.out.kq.get 3 rfl
  have q4 := D4.out.kq.get 4 rfl
  have q5 := D4.out.kq.get 5 rfl
  have q6 := D4.out.kq.get 6 rfl
  go_upto_region 5 with fail
  have hR := hid (req_calls q w4 HQ.out (HL.out.below B4.out HL.out.1))
  by_cases hf : (reqL q).2 = 0
  case neg =>
    have hE : (reqL q).2 = 4 := by
      unfold reqL at hf ⊢
      split
      · rename_i h1; rw [if_pos h1] at hf; exact absurd rfl hf
      · rfl
    have HD := hid (show doT t q = (t, { repQ q with e := 4 }, false) from by unfold doT; rw [if_pos hf, hE])
    rw [hE] at hR
    clear hf hE
    go_upto_region 7 with (go_at_call 33; go_loud (refine hR.out.mono ?_; rintro e w5 ⟨v5, rfl, _, hb5⟩; have D5 := hid (D4.out.below hb5); have B5 := hid (B4.out.trans (hb5.mono B4.out.size)); clear hb5))
    have p2 := D5.out.kp.get 2 rfl
    have f2 := D5.out.kp.free 2
    go_upto_region 8 with fail
    have D8 := hid (D5.out.setP (P' := { repQ q with e := 4 }) 2 (.int .i64 4) rfl)
    have B8 := hid (blk_below_set B5.out (chg_setCell w5 zp 2 (.int .i64 4)) D5.out.geP)
    clear p2 f2
    generalize (w5.setCell ⟨zp, 2, none⟩ (.int .i64 4)) = w8 at D8 B8 ⊢
    repeat (first | (refine wpList_load_blk (o := ⟨some 29, _, _, _, _, _⟩) 30 (.tmp 6) rfl rfl zp (repV ({ repQ q with e := 4 })) 30 rfl D8.out.kp row_rep size_rep ?_) | (refine wpList_store_blk (o := ⟨none, _, 0, _, _, _⟩) 30 (.tmp 4) (.tmp 29) rfl rfl zr (repV repZ) (repV ({ repQ q with e := 4 })) 30 rfl rfl D8.out.kr rfl size_rep (repV_one _) ?_; intro w9 hZ9 hC9) | go_step)
    refine bodyPost_ret (v := .tuple #[.agg (repV ({ repQ q with e := 4 })).toArray, .bool false]) (results_blk2 (fn := Tryd.f11) (p := 4) (q := 5) (ty := 30) rfl _ zr (repV ({ repQ q with e := 4 })) 30 (.bool false) rfl rfl hZ9 row_rep size_rep) rfl ?_
    rw [HD.out]
    exact TbTo.same H.out (blk_below_set B8.out hC9 D8.out.geR)
  have HC := hid (reqL_client hf)
  rw [hf] at hR
  go_upto_region 9 with (go_at_call 33; go_loud (refine hR.out.mono ?_; rintro e w5 ⟨v5, rfl, _, hb5⟩; have D5 := hid (D4.out.below hb5); have B5 := hid (B4.out.trans (hb5.mono B4.out.size)); clear hb5))
  have HF := hid hf
  clear hR D4 B4 hf t0 q0 q1 q2 q3 q4 q5 q6
  have t0 := D5.out.kt.get 0 rfl
  have q0 := D5.out.kq.get 0 rfl
  have q1 := D5.out.kq.get 1 rfl
  have q2 := D5.out.kq.get 2 rfl
  have q3 := D5.out.kq.get 3 rfl
  have q4 := D5.out.kq.get 4 rfl
  have q5 := D5.out.kq.get 5 rfl
  have q6 := D5.out.kq.get 6 rfl
  by_cases hk3 : q.kind = 3
  · have g3 : ((q.kind : Int) == 3) = true := by simp; omega
    have HD := hid (show doT t q = (t, queryO (jobT t q.job) (repQ q) q.job, false) from by unfold doT; rw [if_neg (by rw [HF.out]; decide), if_pos hk3, queryT_O])
    clear hk3
    have hQ := hid (query_any w5 (.pointer (some ⟨T, 0, none⟩)) (repQ q) q.job (jobT t q.job) fun W hW => job_calls W B T b ov t q.job (H.out.below (B5.out.trans (hW.mono B5.out.size))) HQ.out.job)
    have p0 := D5.out.kp.get 0 rfl
    have p1 := D5.out.kp.get 1 rfl
    have p2 := D5.out.kp.get 2 rfl
    have p3 := D5.out.kp.get 3 rfl
    have p4 := D5.out.kp.get 4 rfl
    have p5 := D5.out.kp.get 5 rfl
    go_upto_region 10 with fail
    go_wp2_with (first | (go_at_call 34; go_loud (refine hQ.out.mono ?_; rintro e w6 ⟨rfl, hb6⟩; have D6 := hid (D5.out.below hb6); have B6 := hid (B5.out.trans (hb6.mono B5.out.size)); clear hb6)) | (refine wpList_store_blk (o := ⟨none, _, 0, _, _, _⟩) 30 (.tmp 4) (.tmp 37) rfl rfl zr (repV repZ) (repV (queryO (jobT t q.job) (repQ q) q.job)) 30 rfl rfl D6.out.kr rfl size_rep (repV_one _) ?_; intro w9 hZ9 hC9))
    refine bodyPost_ret (v := .tuple #[.agg (repV (queryO (jobT t q.job) (repQ q) q.job)).toArray, .bool false]) (results_blk2 (fn := Tryd.f11) (p := 4) (q := 5) (ty := 30) rfl _ zr (repV (queryO (jobT t q.job) (repQ q) q.job)) 30 (.bool false) rfl rfl hZ9 row_rep size_rep) rfl ?_
    rw [HD.out]
    exact TbTo.same H.out (blk_below_set B6.out hC9 D6.out.geR)
  have g3 : ((q.kind : Int) == 3) = false := by simp; omega
  have HO := hid (order_calls w5 B T b ov t q (H.out.below B5.out) HQ.out HC.out)
  obtain ⟨k, hk⟩ : ∃ k, orderT t q = k := ⟨_, rfl⟩
  rw [hk] at HO
  by_cases hk0 : k = 0
  case neg =>
    have e0 : (k == 0) = false := by simpa using hk0
    have HD := hid (show doT t q = (t, { repQ q with e := k }, false) from by unfold doT; rw [if_neg (by rw [HF.out]; decide), if_neg hk3, if_pos (by rw [hk]; exact hk0), hk])
    clear hk0 hk hk3
    go_upto_region 13 with (go_at_call 35; go_loud (refine HO.out.mono ?_; rintro e w6 ⟨rfl, hb6⟩; have D6 := hid (D5.out.below hb6); have B6 := hid (B5.out.trans (hb6.mono B5.out.size)); clear hb6))
    have p2 := D6.out.kp.get 2 rfl
    have f2 := D6.out.kp.free 2
    go_upto_region 14 with fail
    have D8 := hid (D6.out.setP (P' := { repQ q with e := k }) 2 (.int .i64 k) rfl)
    have B8 := hid (blk_below_set B6.out (chg_setCell w6 zp 2 (.int .i64 k)) D6.out.geP)
    clear p2 f2
    generalize (w6.setCell ⟨zp, 2, none⟩ (.int .i64 k)) = w8 at D8 B8 ⊢
    repeat (first | (refine wpList_load_blk (o := ⟨some 45, _, _, _, _, _⟩) 30 (.tmp 6) rfl rfl zp (repV ({ repQ q with e := k })) 30 rfl D8.out.kp row_rep size_rep ?_) | (refine wpList_store_blk (o := ⟨none, _, 0, _, _, _⟩) 30 (.tmp 4) (.tmp 45) rfl rfl zr (repV repZ) (repV ({ repQ q with e := k })) 30 rfl rfl D8.out.kr rfl size_rep (repV_one _) ?_; intro w9 hZ9 hC9) | go_step)
    refine bodyPost_ret (v := .tuple #[.agg (repV ({ repQ q with e := k })).toArray, .bool false]) (results_blk2 (fn := Tryd.f11) (p := 4) (q := 5) (ty := 30) rfl _ zr (repV ({ repQ q with e := k })) 30 (.bool false) rfl rfl hZ9 row_rep size_rep) rfl ?_
    rw [HD.out]
    exact TbTo.same H.out (blk_below_set B8.out hC9 D8.out.geR)
  subst hk0
  go_upto_region 15 with (go_at_call 35; go_loud (refine HO.out.mono ?_; rintro e w6 ⟨rfl, hb6⟩; have D6 := hid (D5.out.below hb6); have B6 := hid (B5.out.trans (hb6.mono B5.out.size)); clear hb6))
  clear HO D5 B5 t0 q0 q1 q2 q3 q4 q5 q6
  have t0 := D6.out.kt.get 0 rfl
  have q0 := D6.out.kq.get 0 rfl
  have q1 := D6.out.kq.get 1 rfl
  obtain ⟨L, hL⟩ : ∃ L, t.last.getD q.client repZ = L := ⟨_, rfl⟩
  have T6 := hid (H.out.below B6.out)
  have hc' : (q.client : Int) < 8 := by have := HC.out; omega
  have l0 := T6.out.own.get (4 + q.client * 6 + 0) (by rw [tb_last H.out.ok b ov HC.out (by omega), hL]; rfl)
  have l1 := T6.out.own.get (4 + q.client * 6 + 1) (by rw [tb_last H.out.ok b ov HC.out (by omega), hL]; rfl)
  have l2 := T6.out.own.get (4 + q.client * 6 + 2) (by rw [tb_last H.out.ok b ov HC.out (by omega), hL]; rfl)
  have l3 := T6.out.own.get (4 + q.client * 6 + 3) (by rw [tb_last H.out.ok b ov HC.out (by omega), hL]; rfl)
  have l4 := T6.out.own.get (4 + q.client * 6 + 4) (by rw [tb_last H.out.ok b ov HC.out (by omega), hL]; rfl)
  have l5 := T6.out.own.get (4 + q.client * 6 + 5) (by rw [tb_last H.out.ok b ov HC.out (by omega), hL]; rfl)
  have HK := hid hk
  have HK3 := hid hk3
  have HLL := hid hL
  clear hk hk3 hL
  by_cases hs : q.seq = L.seq
  case pos =>
    have e56 : ((q.seq : Int) == (L.seq : Int)) = true := by simp; omega
    have HD := hid (show doT t q = (t, L, false) from by unfold doT; rw [if_neg (by rw [HF.out]; decide), if_neg HK3.out, if_neg (by rw [HK.out]; decide), if_pos (by rw [HLL.out]; exact hs), HLL.out])
    clear hs
    go_quiet (fail)
    have D7 := hid (D6.out.below (below_drewN (Below.refl _ w6) nq))
    have B7 := hid (below_drewN B6.out nq)
    have T7 := hid (H.out.below B7.out)
    clear t0 q0 q1 l0 l1 l2 l3 l4 l5 e56 D6 B6 T6
    generalize w6.drewN nq = w7 at D7 B7 T7 ⊢
    have t0 := D7.out.kt.get 0 rfl
    have q0 := D7.out.kq.get 0 rfl
    have r0 := D7.out.kr.get 0 rfl
    have r1 := D7.out.kr.get 1 rfl
    have r2 := D7.out.kr.get 2 rfl
    have r3 := D7.out.kr.get 3 rfl
    have r4 := D7.out.kr.get 4 rfl
    have r5 := D7.out.kr.get 5 rfl
    have fr0 := D7.out.kr.free 0
    have fr1 := D7.out.kr.free 1
    have fr2 := D7.out.kr.free 2
    have fr3 := D7.out.kr.free 3
    have fr4 := D7.out.kr.free 4
    have fr5 := D7.out.kr.free 5
    have l0 := T7.out.own.get (4 + q.client * 6 + 0) (by rw [tb_last H.out.ok b ov HC.out (by omega), HLL.out]; rfl)
    have l1 := T7.out.own.get (4 + q.client * 6 + 1) (by rw [tb_last H.out.ok b ov HC.out (by omega), HLL.out]; rfl)
    have l2 := T7.out.own.get (4 + q.client * 6 + 2) (by rw [tb_last H.out.ok b ov HC.out (by omega), HLL.out]; rfl)
    have l3 := T7.out.own.get (4 + q.client * 6 + 3) (by rw [tb_last H.out.ok b ov HC.out (by omega), HLL.out]; rfl)
    have l4 := T7.out.own.get (4 + q.client * 6 + 4) (by rw [tb_last H.out.ok b ov HC.out (by omega), HLL.out]; rfl)
    have l5 := T7.out.own.get (4 + q.client * 6 + 5) (by rw [tb_last H.out.ok b ov HC.out (by omega), HLL.out]; rfl)
    rw [Nat.add_zero] at l0

    have zl := D7.out.kr.lt
    have Tl := T7.out.own.lt
    go_upto_region 16 with fail
    go_region
    have hC9 := hid ((chg_set6 w7 zr 0 (.int .u8 (L.client : Int)) (.int .u32 (L.seq : Int)) (.int .i64 L.e) (.int .u32 (L.job : Int)) (.int .u8 (L.state : Int)) (.int .i64 L.credit)).trans (Chg.of_below [zr] (below_drew _)))
    have hZ9 := hid (show Blk (set6 w7 zr 0 (.int .u8 (L.client : Int)) (.int .u32 (L.seq : Int)) (.int .i64 L.e) (.int .u32 (L.job : Int)) (.int .u8 (L.state : Int)) (.int .i64 L.credit)).drew zr (repV L) 30 from (blk_set6 D7.out.kr 0 _ _ _ _ _ _).below (below_drew _))
    unfold set6 at hZ9 hC9
    simp only [Nat.zero_add] at hZ9 hC9
    generalize ((((((w7.setCell ⟨zr, 0, none⟩ (.int .u8 (L.client : Int))).setCell ⟨zr, 1, none⟩ (.int .u32 (L.seq : Int))).setCell ⟨zr, 2, none⟩ (.int .i64 L.e)).setCell ⟨zr, 3, none⟩ (.int .u32 (L.job : Int))).setCell ⟨zr, 4, none⟩ (.int .u8 (L.state : Int))).setCell ⟨zr, 5, none⟩ (.int .i64 L.credit)).drew = w9 at hZ9 hC9 ⊢
    clear t0 q0 r0 r1 r2 r3 r4 r5 fr0 fr1 fr2 fr3 fr4 fr5 l0 l1 l2 l3 l4 l5 zl Tl
    repeat go_step
    refine bodyPost_ret (v := .tuple #[.agg (repV L).toArray, .bool false]) (results_blk2 (fn := Tryd.f11) (p := 4) (q := 5) (ty := 30) rfl _ zr (repV L) 30 (.bool false) rfl rfl hZ9.out row_rep size_rep) rfl ?_
    rw [HD.out]
    exact TbTo.same H.out (blk_below_set B7.out hC9.out D7.out.geR)
  have e56 : ((q.seq : Int) == (L.seq : Int)) = false := by simp; omega
  go_quiet (fail)
  have D7 := hid (D6.out.below (below_drewN (Below.refl _ w6) nq))
  have B7 := hid (below_drewN B6.out nq)
  clear t0 q0 q1 l0 l1 l2 l3 l4 l5 e56 D6 B6 T6
  generalize w6.drewN nq = w7 at D7 B7 ⊢
  have HA := hid (show doT t q = if (actT t q).2.2 = 0 then ({ (actT t q).1 with last := t.last.set q.client { repQ q with job := (actT t q).2.1, e := 0 } }, { repQ q with job := (actT t q).2.1, e := 0 }, true) else ((actT t q).1, { repQ q with job := (actT t q).2.1, e := (actT t q).2.2 }, false) from by unfold doT; rw [if_neg (by rw [HF.out]; decide), if_neg HK3.out, if_neg (by rw [HK.out]; decide), if_neg (by rw [HLL.out]; exact hs)])
  have HOK := hid (doT_ok H.out.ok q HQ.out)
  have HLA := hid (show (actT t q).1.last = t.last from by
    unfold actT
    split
    · unfold cancelT
      split <;> rfl
    · unfold submitT
      repeat (first | rfl | split))
  have hD2 := hid (fun h2 : q.kind = 2 => (show actT t q = cancelT t q.job from if_pos h2) ▸ do2_calls w7 B T b ov t q (H.out.below B7.out) HQ.out z zq D7.out.kt D7.out.kq)
  have hD1 := hid (fun h2 : ¬ q.kind = 2 => (show actT t q = submitT t q from if_neg h2) ▸ do1_calls w7 B T b ov t q (H.out.below B7.out) HQ.out z zq D7.out.kt D7.out.kq)
  clear hs
  obtain ⟨⟨t', id, k⟩, hact⟩ : ∃ r, actT t q = r := ⟨_, rfl⟩
  rw [hact] at hD1 hD2 HA HLA
  dsimp only at hD1 hD2 HA HLA
  clear hact
  have kd := D7.out.kq.get 2 rfl
  by_cases h2 : q.kind = 2
  · have g2 : ((q.kind : Int) == 2) = true := by simp; omega
    have hdo := hid (hD2.out h2)
    clear h2 hD1 hD2
    go_upto_region 20 with fail
    clear kd g2 g3
    go_upto_region 21 with (go_at_call 38; go_loud (refine hdo.out.mono ?_; rintro e w8 ⟨rfl, ov', hI, hch, hown⟩; have I8 := hid hI; have C8 := hid hch; have O8 := hid hown; clear hI hch hown; have D8 := hid (D7.out.chg C8.out (fun k hk => (H.out.lt k hk).2)); have p3 := D8.out.kp.get 3 rfl; have p2 := D8.out.kp.get 2 rfl; have f3 := D8.out.kp.free 3; have f2 := D8.out.kp.free 2; simp only [actRes]))
    have D9 := hid ((D8.out.setP (P' := { repQ q with job := id }) 3 (.int .u32 (id : Int)) rfl).setP (P' := { repQ q with job := id, e := k }) 2 (.int .i64 k) rfl)
    have C9 := hid ((chg_setCell w8 zp 3 (.int .u32 (id : Int))).trans (chg_setCell _ zp 2 (.int .i64 k)))
    have I9 := hid (I8.out.chg C9.out (tbs_away H.out O8.out D7.out.geP D7.out.kp.lt))
    have A9 := hid (((Chg.of_below (tbS T b ov) B7.out).trans C8.out).newer C9.out (by intro g hg; simp at hg; subst hg; exact D7.out.geP))
    have AR := hid (tbs_away H.out O8.out D7.out.geR D7.out.kr.lt)
    have P8 := hid (fun g hg => (O8.out g hg).imp (fun x => x) fun hk => Nat.le_trans B7.out.size hk)
    clear p3 p2 f3 f2
    generalize ((w8.setCell ⟨zp, 3, none⟩ (.int .u32 (id : Int))).setCell ⟨zp, 2, none⟩ (.int .i64 k)) = w9 at D9 I9 A9 ⊢
    clear hdo I8 C8 O8 D8 C9 D7 B7
    have p2 : w9.cell? ⟨zp, 2, none⟩ = some (.int .i64 k) := D9.out.kp.get 2 rfl
    by_cases hk : k = 0
    · subst hk
      have HA2 := hid (show doT t q = ({ t' with last := t'.last.set q.client ⟨q.client, q.seq, 0, id, 0, 0⟩ }, ⟨q.client, q.seq, 0, id, 0, 0⟩, true) from by rw [HA.out, if_pos rfl, HLA.out]; rfl)
      rw [HA2.out] at HOK
      go_upto_region 22 with fail
      have t0 := D9.out.kt.get 0 rfl
      have q0 := D9.out.kq.get 0 rfl
      have p0 : w9.cell? ⟨zp, 0, none⟩ = some (.int .u8 (q.client : Int)) := D9.out.kp.get 0 rfl
      have p1 : w9.cell? ⟨zp, 1, none⟩ = some (.int .u32 (q.seq : Int)) := D9.out.kp.get 1 rfl
      have p3 : w9.cell? ⟨zp, 3, none⟩ = some (.int .u32 (id : Int)) := D9.out.kp.get 3 rfl
      have p4 : w9.cell? ⟨zp, 4, none⟩ = some (.int .u8 0) := D9.out.kp.get 4 rfl
      have p5 : w9.cell? ⟨zp, 5, none⟩ = some (.int .i64 0) := D9.out.kp.get 5 rfl
      have l0 := I9.out.own.get (4 + q.client * 6 + 0) (by rw [tb_last I9.out.ok b ov' HC.out (by omega)]; rfl)
      have fl0 := I9.out.own.free (4 + q.client * 6 + 0)
      have l1 := I9.out.own.get (4 + q.client * 6 + 1) (by rw [tb_last I9.out.ok b ov' HC.out (by omega)]; rfl)
      have fl1 := I9.out.own.free (4 + q.client * 6 + 1)
      have l2 := I9.out.own.get (4 + q.client * 6 + 2) (by rw [tb_last I9.out.ok b ov' HC.out (by omega)]; rfl)
      have fl2 := I9.out.own.free (4 + q.client * 6 + 2)
      have l3 := I9.out.own.get (4 + q.client * 6 + 3) (by rw [tb_last I9.out.ok b ov' HC.out (by omega)]; rfl)
      have fl3 := I9.out.own.free (4 + q.client * 6 + 3)
      have l4 := I9.out.own.get (4 + q.client * 6 + 4) (by rw [tb_last I9.out.ok b ov' HC.out (by omega)]; rfl)
      have fl4 := I9.out.own.free (4 + q.client * 6 + 4)
      have l5 := I9.out.own.get (4 + q.client * 6 + 5) (by rw [tb_last I9.out.ok b ov' HC.out (by omega)]; rfl)
      have fl5 := I9.out.own.free (4 + q.client * 6 + 5)
      rw [Nat.add_zero] at l0 fl0
      have Tl := I9.out.own.lt
      have zl := D9.out.kp.lt
      go_region
      obtain ⟨hI10, hC10⟩ := I9.out.keepRep HC.out ⟨q.client, q.seq, 0, id, 0, 0⟩ (below_drew (set6 w9 T (4 + q.client * 6) (.int .u8 (q.client : Int)) (.int .u32 (q.seq : Int)) (.int .i64 0) (.int .u32 (id : Int)) (.int .u8 0) (.int .i64 0))) HOK.out
      have D10 := hid (show DoBl w.heap.size (((((((w9.setCell ⟨T, 4 + q.client * 6, none⟩ (.int .u8 (q.client : Int))).setCell ⟨T, 4 + q.client * 6 + 1, none⟩ (.int .u32 (q.seq : Int))).setCell ⟨T, 4 + q.client * 6 + 2, none⟩ (.int .i64 0)).setCell ⟨T, 4 + q.client * 6 + 3, none⟩ (.int .u32 (id : Int))).setCell ⟨T, 4 + q.client * 6 + 4, none⟩ (.int .u8 0)).setCell ⟨T, 4 + q.client * 6 + 5, none⟩ (.int .i64 0)).drew) T q z zq zr zp repZ { repQ q with job := id, e := 0 } from D9.out.chg hC10 (by intro g hg; simp at hg; subst hg; exact H.out.own.lt))
      have I10 := hid (show IsTb (((((((w9.setCell ⟨T, 4 + q.client * 6, none⟩ (.int .u8 (q.client : Int))).setCell ⟨T, 4 + q.client * 6 + 1, none⟩ (.int .u32 (q.seq : Int))).setCell ⟨T, 4 + q.client * 6 + 2, none⟩ (.int .i64 0)).setCell ⟨T, 4 + q.client * 6 + 3, none⟩ (.int .u32 (id : Int))).setCell ⟨T, 4 + q.client * 6 + 4, none⟩ (.int .u8 0)).setCell ⟨T, 4 + q.client * 6 + 5, none⟩ (.int .i64 0)).drew) B T b ov' { t' with last := t'.last.set q.client ⟨q.client, q.seq, 0, id, 0, 0⟩ } from hI10)
      have A10 := hid (show Chg (tbS T b ov) w (((((((w9.setCell ⟨T, 4 + q.client * 6, none⟩ (.int .u8 (q.client : Int))).setCell ⟨T, 4 + q.client * 6 + 1, none⟩ (.int .u32 (q.seq : Int))).setCell ⟨T, 4 + q.client * 6 + 2, none⟩ (.int .i64 0)).setCell ⟨T, 4 + q.client * 6 + 3, none⟩ (.int .u32 (id : Int))).setCell ⟨T, 4 + q.client * 6 + 4, none⟩ (.int .u8 0)).setCell ⟨T, 4 + q.client * 6 + 5, none⟩ (.int .i64 0)).drew) from A9.out.trans (hC10.mono (by intro g hg; simp at hg; subst hg; simp [tbS])))
      generalize (((((((w9.setCell ⟨T, 4 + q.client * 6, none⟩ (.int .u8 (q.client : Int))).setCell ⟨T, 4 + q.client * 6 + 1, none⟩ (.int .u32 (q.seq : Int))).setCell ⟨T, 4 + q.client * 6 + 2, none⟩ (.int .i64 0)).setCell ⟨T, 4 + q.client * 6 + 3, none⟩ (.int .u32 (id : Int))).setCell ⟨T, 4 + q.client * 6 + 4, none⟩ (.int .u8 0)).setCell ⟨T, 4 + q.client * 6 + 5, none⟩ (.int .i64 0)).drew) = w10 at D10 I10 A10 ⊢
      clear hI10 hC10 t0 q0 p0 p1 p2 p3 p4 p5 l0 l1 l2 l3 l4 l5 fl0 fl1 fl2 fl3 fl4 fl5 Tl zl D9 I9 A9
      go_upto_region 23 with fail
      have p0 : w10.cell? ⟨zp, 0, none⟩ = some (.int .u8 (q.client : Int)) := D10.out.kp.get 0 rfl
      have p1 : w10.cell? ⟨zp, 1, none⟩ = some (.int .u32 (q.seq : Int)) := D10.out.kp.get 1 rfl
      have p2 : w10.cell? ⟨zp, 2, none⟩ = some (.int .i64 0) := D10.out.kp.get 2 rfl
      have p3 : w10.cell? ⟨zp, 3, none⟩ = some (.int .u32 (id : Int)) := D10.out.kp.get 3 rfl
      have p4 : w10.cell? ⟨zp, 4, none⟩ = some (.int .u8 0) := D10.out.kp.get 4 rfl
      have p5 : w10.cell? ⟨zp, 5, none⟩ = some (.int .i64 0) := D10.out.kp.get 5 rfl
      have r0 := D10.out.kr.get 0 rfl
      have fr0 := D10.out.kr.free 0
      have r1 := D10.out.kr.get 1 rfl
      have fr1 := D10.out.kr.free 1
      have r2 := D10.out.kr.get 2 rfl
      have fr2 := D10.out.kr.free 2
      have r3 := D10.out.kr.get 3 rfl
      have fr3 := D10.out.kr.free 3
      have r4 := D10.out.kr.get 4 rfl
      have fr4 := D10.out.kr.free 4
      have r5 := D10.out.kr.get 5 rfl
      have fr5 := D10.out.kr.free 5
      have zl := D10.out.kr.lt
      have zl2 := D10.out.kp.lt
      have zn1 : zr ≠ zp := Nat.ne_of_lt D10.out.l3
      have zn2 : zp ≠ zr := zn1.symm
      go_region
      have hC11 := hid ((chg_set6 w10 zr 0 (.int .u8 (q.client : Int)) (.int .u32 (q.seq : Int)) (.int .i64 0) (.int .u32 (id : Int)) (.int .u8 0) (.int .i64 0)).trans (Chg.of_below [zr] (below_drew _)))
      have hZ11 := hid (show Blk (set6 w10 zr 0 (.int .u8 (q.client : Int)) (.int .u32 (q.seq : Int)) (.int .i64 0) (.int .u32 (id : Int)) (.int .u8 0) (.int .i64 0)).drew zr (repV (⟨q.client, q.seq, 0, id, 0, 0⟩ : RepD)) 30 from (blk_set6 D10.out.kr 0 _ _ _ _ _ _).below (below_drew _))
      unfold set6 at hZ11 hC11
      simp only [Nat.zero_add] at hZ11 hC11
      generalize ((((((w10.setCell ⟨zr, 0, none⟩ (.int .u8 (q.client : Int))).setCell ⟨zr, 1, none⟩ (.int .u32 (q.seq : Int))).setCell ⟨zr, 2, none⟩ (.int .i64 0)).setCell ⟨zr, 3, none⟩ (.int .u32 (id : Int))).setCell ⟨zr, 4, none⟩ (.int .u8 0)).setCell ⟨zr, 5, none⟩ (.int .i64 0)).drew = w11 at hZ11 hC11 ⊢
      clear p0 p1 p2 p3 p4 p5 r0 r1 r2 r3 r4 r5 fr0 fr1 fr2 fr3 fr4 fr5 zl zl2 zn1 zn2
      repeat go_step
      refine bodyPost_ret (v := .tuple #[.agg (repV (⟨q.client, q.seq, 0, id, 0, 0⟩ : RepD)).toArray, .bool true]) (results_blk2 (fn := Tryd.f11) (p := 4) (q := 5) (ty := 30) rfl _ zr (repV (⟨q.client, q.seq, 0, id, 0, 0⟩ : RepD)) 30 (.bool true) rfl rfl hZ11.out row_rep size_rep) rfl ?_
      rw [HA2.out]
      exact ⟨rfl, ov', I10.out.chg hC11.out AR.out, A10.out.newer hC11.out (by intro g hg; simp at hg; subst hg; exact D10.out.geR), P8.out⟩
    · have e0 : (k == 0) = false := by simpa using hk
      have HA2 := hid (show doT t q = (t', ⟨q.client, q.seq, k, id, 0, 0⟩, false) from by rw [HA.out, if_neg hk]; rfl)
      clear hk
      go_upto_region 23 with fail
      clear p2
      have p0 : w9.cell? ⟨zp, 0, none⟩ = some (.int .u8 (q.client : Int)) := D9.out.kp.get 0 rfl
      have p1 : w9.cell? ⟨zp, 1, none⟩ = some (.int .u32 (q.seq : Int)) := D9.out.kp.get 1 rfl
      have p2 : w9.cell? ⟨zp, 2, none⟩ = some (.int .i64 k) := D9.out.kp.get 2 rfl
      have p3 : w9.cell? ⟨zp, 3, none⟩ = some (.int .u32 (id : Int)) := D9.out.kp.get 3 rfl
      have p4 : w9.cell? ⟨zp, 4, none⟩ = some (.int .u8 0) := D9.out.kp.get 4 rfl
      have p5 : w9.cell? ⟨zp, 5, none⟩ = some (.int .i64 0) := D9.out.kp.get 5 rfl
      have r0 := D9.out.kr.get 0 rfl
      have fr0 := D9.out.kr.free 0
      have r1 := D9.out.kr.get 1 rfl
      have fr1 := D9.out.kr.free 1
      have r2 := D9.out.kr.get 2 rfl
      have fr2 := D9.out.kr.free 2
      have r3 := D9.out.kr.get 3 rfl
      have fr3 := D9.out.kr.free 3
      have r4 := D9.out.kr.get 4 rfl
      have fr4 := D9.out.kr.free 4
      have r5 := D9.out.kr.get 5 rfl
      have fr5 := D9.out.kr.free 5
      have zl := D9.out.kr.lt
      have zl2 := D9.out.kp.lt
      have zn1 : zr ≠ zp := Nat.ne_of_lt D9.out.l3
      have zn2 : zp ≠ zr := zn1.symm
      go_region
      have hC11 := hid ((chg_set6 w9 zr 0 (.int .u8 (q.client : Int)) (.int .u32 (q.seq : Int)) (.int .i64 k) (.int .u32 (id : Int)) (.int .u8 0) (.int .i64 0)).trans (Chg.of_below [zr] (below_drew _)))
      have hZ11 := hid (show Blk (set6 w9 zr 0 (.int .u8 (q.client : Int)) (.int .u32 (q.seq : Int)) (.int .i64 k) (.int .u32 (id : Int)) (.int .u8 0) (.int .i64 0)).drew zr (repV (⟨q.client, q.seq, k, id, 0, 0⟩ : RepD)) 30 from (blk_set6 D9.out.kr 0 _ _ _ _ _ _).below (below_drew _))
      unfold set6 at hZ11 hC11
      simp only [Nat.zero_add] at hZ11 hC11
      generalize ((((((w9.setCell ⟨zr, 0, none⟩ (.int .u8 (q.client : Int))).setCell ⟨zr, 1, none⟩ (.int .u32 (q.seq : Int))).setCell ⟨zr, 2, none⟩ (.int .i64 k)).setCell ⟨zr, 3, none⟩ (.int .u32 (id : Int))).setCell ⟨zr, 4, none⟩ (.int .u8 0)).setCell ⟨zr, 5, none⟩ (.int .i64 0)).drew = w11 at hZ11 hC11 ⊢
      clear p0 p1 p2 p3 p4 p5 r0 r1 r2 r3 r4 r5 fr0 fr1 fr2 fr3 fr4 fr5 zl zl2 zn1 zn2
      repeat go_step
      refine bodyPost_ret (v := .tuple #[.agg (repV (⟨q.client, q.seq, k, id, 0, 0⟩ : RepD)).toArray, .bool false]) (results_blk2 (fn := Tryd.f11) (p := 4) (q := 5) (ty := 30) rfl _ zr (repV (⟨q.client, q.seq, k, id, 0, 0⟩ : RepD)) 30 (.bool false) rfl rfl hZ11.out row_rep size_rep) rfl ?_
      rw [HA2.out]
      exact ⟨rfl, ov', I9.out.chg hC11.out AR.out, A9.out.newer hC11.out (by intro g hg; simp at hg; subst hg; exact D9.out.geR), P8.out⟩
  · have g2 : ((q.kind : Int) == 2) = false := by simp; omega
    have hdo := hid (hD1.out h2)
    clear h2 hD1 hD2
    go_upto_region 20 with fail
    clear kd g2 g3
    go_upto_region 21 with (go_at_call 36; go_loud (refine hdo.out.mono ?_; rintro e w8 ⟨rfl, ov', hI, hch, hown⟩; have I8 := hid hI; have C8 := hid hch; have O8 := hid hown; clear hI hch hown; have D8 := hid (D7.out.chg C8.out (fun k hk => (H.out.lt k hk).2)); have p3 := D8.out.kp.get 3 rfl; have p2 := D8.out.kp.get 2 rfl; have f3 := D8.out.kp.free 3; have f2 := D8.out.kp.free 2; simp only [actRes]))
    have D9 := hid ((D8.out.setP (P' := { repQ q with job := id }) 3 (.int .u32 (id : Int)) rfl).setP (P' := { repQ q with job := id, e := k }) 2 (.int .i64 k) rfl)
    have C9 := hid ((chg_setCell w8 zp 3 (.int .u32 (id : Int))).trans (chg_setCell _ zp 2 (.int .i64 k)))
    have I9 := hid (I8.out.chg C9.out (tbs_away H.out O8.out D7.out.geP D7.out.kp.lt))
    have A9 := hid (((Chg.of_below (tbS T b ov) B7.out).trans C8.out).newer C9.out (by intro g hg; simp at hg; subst hg; exact D7.out.geP))
    have AR := hid (tbs_away H.out O8.out D7.out.geR D7.out.kr.lt)
    have P8 := hid (fun g hg => (O8.out g hg).imp (fun x => x) fun hk => Nat.le_trans B7.out.size hk)
    clear p3 p2 f3 f2
    generalize ((w8.setCell ⟨zp, 3, none⟩ (.int .u32 (id : Int))).setCell ⟨zp, 2, none⟩ (.int .i64 k)) = w9 at D9 I9 A9 ⊢
    clear hdo I8 C8 O8 D8 C9 D7 B7
    have p2 : w9.cell? ⟨zp, 2, none⟩ = some (.int .i64 k) := D9.out.kp.get 2 rfl
    by_cases hk : k = 0
    · subst hk
      have HA2 := hid (show doT t q = ({ t' with last := t'.last.set q.client ⟨q.client, q.seq, 0, id, 0, 0⟩ }, ⟨q.client, q.seq, 0, id, 0, 0⟩, true) from by rw [HA.out, if_pos rfl, HLA.out]; rfl)
      rw [HA2.out] at HOK
      go_upto_region 22 with fail
      have t0 := D9.out.kt.get 0 rfl
      have q0 := D9.out.kq.get 0 rfl
      have p0 : w9.cell? ⟨zp, 0, none⟩ = some (.int .u8 (q.client : Int)) := D9.out.kp.get 0 rfl
      have p1 : w9.cell? ⟨zp, 1, none⟩ = some (.int .u32 (q.seq : Int)) := D9.out.kp.get 1 rfl
      have p3 : w9.cell? ⟨zp, 3, none⟩ = some (.int .u32 (id : Int)) := D9.out.kp.get 3 rfl
      have p4 : w9.cell? ⟨zp, 4, none⟩ = some (.int .u8 0) := D9.out.kp.get 4 rfl
      have p5 : w9.cell? ⟨zp, 5, none⟩ = some (.int .i64 0) := D9.out.kp.get 5 rfl
      have l0 := I9.out.own.get (4 + q.client * 6 + 0) (by rw [tb_last I9.out.ok b ov' HC.out (by omega)]; rfl)
      have fl0 := I9.out.own.free (4 + q.client * 6 + 0)
      have l1 := I9.out.own.get (4 + q.client * 6 + 1) (by rw [tb_last I9.out.ok b ov' HC.out (by omega)]; rfl)
      have fl1 := I9.out.own.free (4 + q.client * 6 + 1)
      have l2 := I9.out.own.get (4 + q.client * 6 + 2) (by rw [tb_last I9.out.ok b ov' HC.out (by omega)]; rfl)
      have fl2 := I9.out.own.free (4 + q.client * 6 + 2)
      have l3 := I9.out.own.get (4 + q.client * 6 + 3) (by rw [tb_last I9.out.ok b ov' HC.out (by omega)]; rfl)
      have fl3 := I9.out.own.free (4 + q.client * 6 + 3)
      have l4 := I9.out.own.get (4 + q.client * 6 + 4) (by rw [tb_last I9.out.ok b ov' HC.out (by omega)]; rfl)
      have fl4 := I9.out.own.free (4 + q.client * 6 + 4)
      have l5 := I9.out.own.get (4 + q.client * 6 + 5) (by rw [tb_last I9.out.ok b ov' HC.out (by omega)]; rfl)
      have fl5 := I9.out.own.free (4 + q.client * 6 + 5)
      rw [Nat.add_zero] at l0 fl0
      have Tl := I9.out.own.lt
      have zl := D9.out.kp.lt
      go_region
      obtain ⟨hI10, hC10⟩ := I9.out.keepRep HC.out ⟨q.client, q.seq, 0, id, 0, 0⟩ (below_drew (set6 w9 T (4 + q.client * 6) (.int .u8 (q.client : Int)) (.int .u32 (q.seq : Int)) (.int .i64 0) (.int .u32 (id : Int)) (.int .u8 0) (.int .i64 0))) HOK.out
      have D10 := hid (show DoBl w.heap.size (((((((w9.setCell ⟨T, 4 + q.client * 6, none⟩ (.int .u8 (q.client : Int))).setCell ⟨T, 4 + q.client * 6 + 1, none⟩ (.int .u32 (q.seq : Int))).setCell ⟨T, 4 + q.client * 6 + 2, none⟩ (.int .i64 0)).setCell ⟨T, 4 + q.client * 6 + 3, none⟩ (.int .u32 (id : Int))).setCell ⟨T, 4 + q.client * 6 + 4, none⟩ (.int .u8 0)).setCell ⟨T, 4 + q.client * 6 + 5, none⟩ (.int .i64 0)).drew) T q z zq zr zp repZ { repQ q with job := id, e := 0 } from D9.out.chg hC10 (by intro g hg; simp at hg; subst hg; exact H.out.own.lt))
      have I10 := hid (show IsTb (((((((w9.setCell ⟨T, 4 + q.client * 6, none⟩ (.int .u8 (q.client : Int))).setCell ⟨T, 4 + q.client * 6 + 1, none⟩ (.int .u32 (q.seq : Int))).setCell ⟨T, 4 + q.client * 6 + 2, none⟩ (.int .i64 0)).setCell ⟨T, 4 + q.client * 6 + 3, none⟩ (.int .u32 (id : Int))).setCell ⟨T, 4 + q.client * 6 + 4, none⟩ (.int .u8 0)).setCell ⟨T, 4 + q.client * 6 + 5, none⟩ (.int .i64 0)).drew) B T b ov' { t' with last := t'.last.set q.client ⟨q.client, q.seq, 0, id, 0, 0⟩ } from hI10)
      have A10 := hid (show Chg (tbS T b ov) w (((((((w9.setCell ⟨T, 4 + q.client * 6, none⟩ (.int .u8 (q.client : Int))).setCell ⟨T, 4 + q.client * 6 + 1, none⟩ (.int .u32 (q.seq : Int))).setCell ⟨T, 4 + q.client * 6 + 2, none⟩ (.int .i64 0)).setCell ⟨T, 4 + q.client * 6 + 3, none⟩ (.int .u32 (id : Int))).setCell ⟨T, 4 + q.client * 6 + 4, none⟩ (.int .u8 0)).setCell ⟨T, 4 + q.client * 6 + 5, none⟩ (.int .i64 0)).drew) from A9.out.trans (hC10.mono (by intro g hg; simp at hg; subst hg; simp [tbS])))
      generalize (((((((w9.setCell ⟨T, 4 + q.client * 6, none⟩ (.int .u8 (q.client : Int))).setCell ⟨T, 4 + q.client * 6 + 1, none⟩ (.int .u32 (q.seq : Int))).setCell ⟨T, 4 + q.client * 6 + 2, none⟩ (.int .i64 0)).setCell ⟨T, 4 + q.client * 6 + 3, none⟩ (.int .u32 (id : Int))).setCell ⟨T, 4 + q.client * 6 + 4, none⟩ (.int .u8 0)).setCell ⟨T, 4 + q.client * 6 + 5, none⟩ (.int .i64 0)).drew) = w10 at D10 I10 A10 ⊢
      clear hI10 hC10 t0 q0 p0 p1 p2 p3 p4 p5 l0 l1 l2 l3 l4 l5 fl0 fl1 fl2 fl3 fl4 fl5 Tl zl D9 I9 A9
      go_upto_region 23 with fail
      have p0 : w10.cell? ⟨zp, 0, none⟩ = some (.int .u8 (q.client : Int)) := D10.out.kp.get 0 rfl
      have p1 : w10.cell? ⟨zp, 1, none⟩ = some (.int .u32 (q.seq : Int)) := D10.out.kp.get 1 rfl
      have p2 : w10.cell? ⟨zp, 2, none⟩ = some (.int .i64 0) := D10.out.kp.get 2 rfl
      have p3 : w10.cell? ⟨zp, 3, none⟩ = some (.int .u32 (id : Int)) := D10.out.kp.get 3 rfl
      have p4 : w10.cell? ⟨zp, 4, none⟩ = some (.int .u8 0) := D10.out.kp.get 4 rfl
      have p5 : w10.cell? ⟨zp, 5, none⟩ = some (.int .i64 0) := D10.out.kp.get 5 rfl
      have r0 := D10.out.kr.get 0 rfl
      have fr0 := D10.out.kr.free 0
      have r1 := D10.out.kr.get 1 rfl
      have fr1 := D10.out.kr.free 1
      have r2 := D10.out.kr.get 2 rfl
      have fr2 := D10.out.kr.free 2
      have r3 := D10.out.kr.get 3 rfl
      have fr3 := D10.out.kr.free 3
      have r4 := D10.out.kr.get 4 rfl
      have fr4 := D10.out.kr.free 4
      have r5 := D10.out.kr.get 5 rfl
      have fr5 := D10.out.kr.free 5
      have zl := D10.out.kr.lt
      have zl2 := D10.out.kp.lt
      have zn1 : zr ≠ zp := Nat.ne_of_lt D10.out.l3
      have zn2 : zp ≠ zr := zn1.symm
      go_region
      have hC11 := hid ((chg_set6 w10 zr 0 (.int .u8 (q.client : Int)) (.int .u32 (q.seq : Int)) (.int .i64 0) (.int .u32 (id : Int)) (.int .u8 0) (.int .i64 0)).trans (Chg.of_below [zr] (below_drew _)))
      have hZ11 := hid (show Blk (set6 w10 zr 0 (.int .u8 (q.client : Int)) (.int .u32 (q.seq : Int)) (.int .i64 0) (.int .u32 (id : Int)) (.int .u8 0) (.int .i64 0)).drew zr (repV (⟨q.client, q.seq, 0, id, 0, 0⟩ : RepD)) 30 from (blk_set6 D10.out.kr 0 _ _ _ _ _ _).below (below_drew _))
      unfold set6 at hZ11 hC11
      simp only [Nat.zero_add] at hZ11 hC11
      generalize ((((((w10.setCell ⟨zr, 0, none⟩ (.int .u8 (q.client : Int))).setCell ⟨zr, 1, none⟩ (.int .u32 (q.seq : Int))).setCell ⟨zr, 2, none⟩ (.int .i64 0)).setCell ⟨zr, 3, none⟩ (.int .u32 (id : Int))).setCell ⟨zr, 4, none⟩ (.int .u8 0)).setCell ⟨zr, 5, none⟩ (.int .i64 0)).drew = w11 at hZ11 hC11 ⊢
      clear p0 p1 p2 p3 p4 p5 r0 r1 r2 r3 r4 r5 fr0 fr1 fr2 fr3 fr4 fr5 zl zl2 zn1 zn2
      repeat go_step
      refine bodyPost_ret (v := .tuple #[.agg (repV (⟨q.client, q.seq, 0, id, 0, 0⟩ : RepD)).toArray, .bool true]) (results_blk2 (fn := Tryd.f11) (p := 4) (q := 5) (ty := 30) rfl _ zr (repV (⟨q.client, q.seq, 0, id, 0, 0⟩ : RepD)) 30 (.bool true) rfl rfl hZ11.out row_rep size_rep) rfl ?_
      rw [HA2.out]
      exact ⟨rfl, ov', I10.out.chg hC11.out AR.out, A10.out.newer hC11.out (by intro g hg; simp at hg; subst hg; exact D10.out.geR), P8.out⟩
    · have e0 : (k == 0) = false := by simpa using hk
      have HA2 := hid (show doT t q = (t', ⟨q.client, q.seq, k, id, 0, 0⟩, false) from by rw [HA.out, if_neg hk]; rfl)
      clear hk
      go_upto_region 23 with fail
      clear p2
      have p0 : w9.cell? ⟨zp, 0, none⟩ = some (.int .u8 (q.client : Int)) := D9.out.kp.get 0 rfl
      have p1 : w9.cell? ⟨zp, 1, none⟩ = some (.int .u32 (q.seq : Int)) := D9.out.kp.get 1 rfl
      have p2 : w9.cell? ⟨zp, 2, none⟩ = some (.int .i64 k) := D9.out.kp.get 2 rfl
      have p3 : w9.cell? ⟨zp, 3, none⟩ = some (.int .u32 (id : Int)) := D9.out.kp.get 3 rfl
      have p4 : w9.cell? ⟨zp, 4, none⟩ = some (.int .u8 0) := D9.out.kp.get 4 rfl
      have p5 : w9.cell? ⟨zp, 5, none⟩ = some (.int .i64 0) := D9.out.kp.get 5 rfl
      have r0 := D9.out.kr.get 0 rfl
      have fr0 := D9.out.kr.free 0
      have r1 := D9.out.kr.get 1 rfl
      have fr1 := D9.out.kr.free 1
      have r2 := D9.out.kr.get 2 rfl
      have fr2 := D9.out.kr.free 2
      have r3 := D9.out.kr.get 3 rfl
      have fr3 := D9.out.kr.free 3
      have r4 := D9.out.kr.get 4 rfl
      have fr4 := D9.out.kr.free 4
      have r5 := D9.out.kr.get 5 rfl
      have fr5 := D9.out.kr.free 5
      have zl := D9.out.kr.lt
      have zl2 := D9.out.kp.lt
      have zn1 : zr ≠ zp := Nat.ne_of_lt D9.out.l3
      have zn2 : zp ≠ zr := zn1.symm
      go_region
      have hC11 := hid ((chg_set6 w9 zr 0 (.int .u8 (q.client : Int)) (.int .u32 (q.seq : Int)) (.int .i64 k) (.int .u32 (id : Int)) (.int .u8 0) (.int .i64 0)).trans (Chg.of_below [zr] (below_drew _)))
      have hZ11 := hid (show Blk (set6 w9 zr 0 (.int .u8 (q.client : Int)) (.int .u32 (q.seq : Int)) (.int .i64 k) (.int .u32 (id : Int)) (.int .u8 0) (.int .i64 0)).drew zr (repV (⟨q.client, q.seq, k, id, 0, 0⟩ : RepD)) 30 from (blk_set6 D9.out.kr 0 _ _ _ _ _ _).below (below_drew _))
      unfold set6 at hZ11 hC11
      simp only [Nat.zero_add] at hZ11 hC11
      generalize ((((((w9.setCell ⟨zr, 0, none⟩ (.int .u8 (q.client : Int))).setCell ⟨zr, 1, none⟩ (.int .u32 (q.seq : Int))).setCell ⟨zr, 2, none⟩ (.int .i64 k)).setCell ⟨zr, 3, none⟩ (.int .u32 (id : Int))).setCell ⟨zr, 4, none⟩ (.int .u8 0)).setCell ⟨zr, 5, none⟩ (.int .i64 0)).drew = w11 at hZ11 hC11 ⊢
      clear p0 p1 p2 p3 p4 p5 r0 r1 r2 r3 r4 r5 fr0 fr1 fr2 fr3 fr4 fr5 zl zl2 zn1 zn2
      repeat go_step
      refine bodyPost_ret (v := .tuple #[.agg (repV (⟨q.client, q.seq, k, id, 0, 0⟩ : RepD)).toArray, .bool false]) (results_blk2 (fn := Tryd.f11) (p := 4) (q := 5) (ty := 30) rfl _ zr (repV (⟨q.client, q.seq, k, id, 0, 0⟩ : RepD)) 30 (.bool false) rfl rfl hZ11.out row_rep size_rep) rfl ?_
      rw [HA2.out]
      exact ⟨rfl, ov', I9.out.chg hC11.out AR.out, A9.out.newer hC11.out (by intro g hg; simp at hg; subst hg; exact D9.out.geR), P8.out⟩

end Go.Proofs.YtombndhjoaaaiaaDoor
