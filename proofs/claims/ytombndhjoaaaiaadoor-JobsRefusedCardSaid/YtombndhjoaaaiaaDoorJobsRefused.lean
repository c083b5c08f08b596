/- JobsRefused: what is refused changes nothing. -/
import Derived.Test.YtombndhjoaaaiaaDoorJobP
namespace Go.Proofs.YtombndhjoaaaiaaDoor
open Go.RowKit Go.Quad _root_.Quad _root_.Quad.Ink

theorem lbytes_calls {w W : World} {T b : Nat} {t : TbD} {G : List Nat} (h : LT w W T b t G) : Calls Tryd.prog 20 #[.pointer (some ⟨T, 0, none⟩)] W fun e W' => ∃ a c, e = .returned (.slice a (bytesT t).length c) ∧ BS W' a c (bytesT t) ∧ (∀ x, a = some x → W.heap.size ≤ x.block ∧ x.block < W'.heap.size) ∧ Below W.heap.size W W' := by
  obtain ⟨_, ov, h2, _⟩ := h
  refine (jbytes_calls W w.heap.size T b ov t h2).mono ?_
  rintro e W' ⟨v, rfl, ho, hb⟩
  obtain ⟨a, c, rfl, hbs, hx⟩ := ho.bs
  exact ⟨a, c, rfl, hbs, fun x hx' => ⟨(hx x hx').2.2.1, (hx x hx').2.2.2⟩, hb⟩
theorem lactive2_calls {w W : World} {T b : Nat} {t : TbD} {G : List Nat} (h : LT w W T b t G) : Calls Tryd.prog 17 #[.pointer (some ⟨T, 0, none⟩)] W fun e W' => ∃ a c, e = .returned (.slice a t.active.length c) ∧ CS W' a c 6 (t.active.flatMap jobV) ∧ (∀ x, a = some x → W.heap.size ≤ x.block ∧ x.block < W'.heap.size) ∧ Below W.heap.size W W' := by
  refine (lactive_calls h).mono ?_
  rintro e W' ⟨a, c, rfl, hr, hb⟩
  obtain ⟨a', n', c', e1, _, _, hcs⟩ := hr.cs
  obtain ⟨rfl, rfl, rfl⟩ : a = a' ∧ t.active.length = n' ∧ c = c' := by simpa using e1
  exact ⟨a, c, rfl, hcs, fun x hx => RO.ownBlock hr x.block (by subst hx; simp [Value.ownBlock]), hb⟩
theorem same1_calls (w : World) (a a' : Option Addr) (c c' : Nat) (l : List UInt8) (h : BS w a c l) (h' : BS w a' c' l) :
    Calls Tryd.prog 21 #[.slice a l.length c, .slice a' l.length c'] w fun e w' => e = .returned (.bool true) ∧ w = w' := by
  refine (same_calls a a' c c' l l w h h').mono ?_
  rintro e w' ⟨rfl, rfl⟩
  exact ⟨by simp, rfl⟩
theorem LT.add {w W W' : World} {T b : Nat} {t : TbD} (h : LT w W T b t []) (hb : Below W.heap.size W W') (G : List Nat) (hG : ∀ g ∈ G, W.heap.size ≤ g ∧ g < W'.heap.size) : LT w W' T b t G := by
  obtain ⟨h1, ov, h2, _⟩ := h
  exact ⟨h1.trans (hb.mono h1.size), ov, h2.below hb, fun g hg => ⟨(hG g hg).2, fun hm => by have := (h2.lt g hm).2; have := (hG g hg).1; omega⟩⟩
theorem addG {w0 w5 w6 : World} {ab aa : Option Addr} (h1 : w0.heap.size ≤ w5.heap.size) (h2 : w5.heap.size ≤ w6.heap.size) (hb : ∀ x, ab = some x → w0.heap.size ≤ x.block ∧ x.block < w5.heap.size) (ha : ∀ x, aa = some x → w5.heap.size ≤ x.block ∧ x.block < w6.heap.size) :
    ∀ g ∈ (ab.map (·.block)).toList ++ (aa.map (·.block)).toList, w0.heap.size ≤ g ∧ g < w6.heap.size := by
  intro g hg
  rcases List.mem_append.1 hg with hg | hg
  · cases ab with
    | none => simp at hg
    | some x => simp at hg; subst hg; have := hb x rfl; omega
  · cases aa with
    | none => simp at hg
    | some x => simp at hg; subst hg; have := ha x rfl; omega
theorem last0 : LastInv (tJ 0 0) := by
  intro c r hr
  left
  rw [show (tJ 0 0).last = List.replicate 8 repZ from by rw [← tJ_new]; rfl] at hr
  exact (List.mem_replicate.1 (List.mem_of_getElem? hr)).2
def RefuRel (w : World) (T b len : Nat) (iv : Value) (wr : World) : Prop := ∃ (k : Nat) (t : TbD), iv = .int .i64 (k : Int) ∧ k ≤ len ∧ LastInv t ∧ LT w wr T b t []

set_option maxRecDepth 100000 in
set_option maxHeartbeats 20000000 in
theorem jobsRefused_walk (v0 v1 : Value) (w : World) (h0 : RV Tryd.prog w 46 v0) (h1 : RV Tryd.prog w 34 v1) (hq : Laid w) :
    Calls Tryd.prog 7 #[v0, v1] w fun e w' => e = .returned (.bool true) ∧ Below w.heap.size w w' := by
  obtain ⟨a0, cap0, l0, rfl, hok0, hcs0, hlc0⟩ := jops_open h0
  obtain ⟨q, rfl, okq⟩ := jreq_open h1
  have m0 : (l0.length : Int) ≤ 9223372036854775807 := by have := hcs0.max; unfold maxLen at this; omega
  have Hok := hid hok0
  have Hcs := hid hcs0
  have Oq := hid okq
  obtain ⟨z, hz⟩ : ∃ z, w.heap.size = z := ⟨_, rfl⟩
  have K0 := hid (show Blk (w.alloc (.cells (reqV q).toArray 34)) z (reqV q) 34 from by rw [← hz]; exact blk_alloc w (reqV q) 34)
  have B0 := hid (below_alloc w (.cells (reqV q).toArray 34))
  have HZ := hid hz
  have HL := hid (hq.below B0.out hq.1)
  clear hq h0 h1 hok0 hcs0 hlc0 okq hz
  go_enter Tryd.func7, Tryd.ntmps7
  go_upto_region 1 with fail
  rw [HZ.out]
  generalize (w.alloc (.cells (reqV q).toArray 34)) = w0 at K0 B0 HL ⊢
  have hA := hid (jawake_calls w0 HL.out)
  go_upto_region 3 with (go_at_call 9; go_loud (refine hA.out.mono ?_; rintro e w1 ⟨rfl, hb⟩; have hN := hid (lnew_calls w0 w1 hb); clear hb))
  go_upto_region 4 with (go_at_call 10; go_loud (refine hN.out.mono ?_; rintro e w2 ⟨T, b, rfl, hl0⟩; have L0 := hid hl0; clear hl0))
  clear hA hN
  go_wp2_with fail
  go_loopw [21] (fun iv wr => RefuRel w0 T b l0.length iv wr) (fun iv _ => l0.length - (intOf iv).toNat)
  case atStart => exact ⟨0, tJ 0 0, rfl, Nat.zero_le _, last0, L0.out⟩
  case round =>
    clear L0
    obtain ⟨k, t, rfl, hk, hinv, hL⟩ := hrel
    have L := hid hL
    have HI := hid hinv
    clear hL hinv
    by_cases hkl : k < l0.length
    · have hkl' : (k : Int) < (l0.length : Int) := by omega
      have Ho := hid (Hok.out _ (List.getElem_mem hkl))
      obtain ⟨bo, off, rfl, hc⟩ := cs_row jopV_length Hcs.out hkl (by decide)
      have HR := hid (show wr.rangeAt bo (off + k * 9) (jopV l0[k]) from fun j v hv => cell_later (B0.out.trans (L.out.1.mono B0.out.size)) (hc j v hv))
      clear hc
      generalize l0[k] = o at Ho HR
      have HKL := hid hkl
      clear hkl
      go_upto_region 7 with (first | (refine wpList_load_row6 (o := ⟨some 25, _, _, _, _, _⟩) 48 (.tmp 24) rfl rfl bo (off + k * 9) (jopV o) rfl HR.out row_jop size_jop ?_) | (refine wpListQ_alloc (o := ⟨some 8, _, _, _, _, _⟩) 48 rfl rfl zjop 9 info_jop ?_) | (refine wpListQ_store_new (o := ⟨none, _, 0, _, _, _⟩) rfl 48 (.tmp 8) (.tmp 25) rfl zjop (jopV o).toArray rfl rfl size_jop rfl (all_oneCell_toArray (jopV_one _)) ?_))
      obtain ⟨zq, hzq⟩ : ∃ z, wr.heap.size = z := ⟨_, rfl⟩
      have LQ := hid (L.out.below (below_alloc wr (.cells (jopV o).toArray 48)))
      have KQ := hid (show Blk (wr.alloc (.cells (jopV o).toArray 48)) zq (jopV o) 48 from by rw [← hzq]; exact blk_alloc wr (jopV o) 48)
      rw [hzq]
      generalize (wr.alloc (.cells (jopV o).toArray 48)) = wq at LQ KQ ⊢
      clear hzq HR L
      by_cases hk3 : k < 40
      · have hk3' : (k : Int) < 40 := by omega
        have D1 := hid (ldo_calls LQ.out o.q Ho.out.q HL.out)
        have RQ := hid (show wq.rangeAt zq 1 (reqV o.q) from blk_part KQ.out 1 7)
        have HI1 := hid (HI.out.step o.q)
        go_wp2_with (first | (refine wpList_load_row6 (o := ⟨some 30, _, _, _, _, _⟩) 34 (.tmp 29) rfl rfl zq 1 (reqV o.q) rfl RQ.out row_req size_req ?_) | (go_at_call 11; go_loud (refine D1.out.mono ?_; rintro e y1 ⟨rfl, hl, _⟩; have L1 := hid hl; clear hl)))
        have hkl := HKL.out
        have R : RefuRel w0 T b l0.length (.int .i64 ((k : Int) + 1)) y1 := ⟨k + 1, _, by simp, hkl, HI1.out, L1.out⟩
        refine ⟨?_, ?_⟩
        · first | exact R | ((repeat apply Exists.intro); refine ⟨R, ?_⟩; and_intros <;> rfl)
        · simp [intOf]
          omega
      · have hk3' : ¬ ((k : Int) < 40) := by omega
        go_wp2_with fail
        have hkl := HKL.out
        have R : RefuRel w0 T b l0.length (.int .i64 ((k : Int) + 1)) wq := ⟨k + 1, t, by simp, hkl, HI.out, LQ.out⟩
        refine ⟨?_, ?_⟩
        · first | exact R | ((repeat apply Exists.intro); refine ⟨R, ?_⟩; and_intros <;> rfl)
        · simp [intOf]
          omega
    · have hkl' : ¬ ((k : Int) < (l0.length : Int)) := by omega
      clear hkl
      have HB := hid (lbytes_calls L.out)
      have few := hid L.out.ok.few
      have fa : (t.active.length : Int) ≤ 64 := by have := few.out.1; omega
      obtain ⟨⟨u, r, d⟩, hdo⟩ : ∃ x, doT t q = x := ⟨_, rfl⟩
      have HRF := hid (show (r.e = 0 → r.client = q.client ∧ r.seq = q.seq) ∧ (r.e ≠ 0 → u = t ∧ d = false ∧ r.job = 0) from by have := refused HI.out q; rw [hdo] at this; exact this)
      have HDO := hid hdo
      clear hdo
      go_upto_region 11 with (first
        | (go_at_call 20; go_loud (refine HB.out.mono ?_; rintro e w5 ⟨ab, cb, rfl, hbs, hx, hb⟩; have L5 := hid (L.out.below hb); have S5 := hid hbs; have B5 := hid hb; have X5 := hid hx; have HA := hid (lactive2_calls L5.out); clear hb hbs hx))
        | (go_at_call 17; go_loud (refine HA.out.mono ?_; rintro e w6 ⟨aa, ca, rfl, hcs, hx, hb⟩; have L6 := hid (L.out.add (B5.out.trans (hb.mono B5.out.size)) ((ab.map (·.block)).toList ++ (aa.map (·.block)).toList) (addG B5.out.size hb.size X5.out hx)); have S6 := hid (S5.out.below hb); have R6 := hid hcs; clear hb hcs hx)))
      clear HB HA L5 S5 L X5 B5
      have K6 := hid (K0.out.below L6.out.1)
      have D2 := lsdo_calls L6.out q Oq.out HL.out
      rw [HDO.out] at D2
      have HD2 := hid D2
      have RQ := hid (show w6.rangeAt z 0 (reqV q) from blk_part K6.out 0 7)
      clear D2
      go_upto_region 12 with (first | (refine wpList_load_row6 (o := ⟨some 39, _, _, _, _, _⟩) 34 (.tmp 3) rfl rfl z 0 (reqV q) rfl RQ.out row_req size_req ?_) | (go_at_call 11; go_loud (refine HD2.out.mono ?_; rintro e y1 ⟨rfl, hl, _, S, hS, hk⟩; have L7 := hid hl; have S7 := hid (S6.out.chg hS (fun x hx hm => (hk _ hm).1 (by subst hx; simp))); have R7 := hid (R6.out.chg hS (fun x hx hm => (hk _ hm).1 (by subst hx; simp))); clear hl hk hS; simp only [doRes])) | (refine wpListQ_alloc (o := ⟨some 11, _, _, _, _, _⟩) 30 rfl rfl zrep 6 info_rep ?_) | (refine wpListQ_store_new (o := ⟨none, _, 0, _, _, _⟩) rfl 30 (.tmp 11) (.tmp 41) rfl zrep (repV r).toArray rfl rfl size_rep rfl (all_oneCell_toArray (repV_one _)) ?_))
      clear HD2 RQ L6 S6 R6 K6
      obtain ⟨zr, hzr⟩ : ∃ z, y1.heap.size = z := ⟨_, rfl⟩
      have ba := below_alloc y1 (.cells (repV r).toArray 30)
      have L8 := hid (L7.out.below ba)
      have S8 := hid (S7.out.below ba)
      have R8 := hid (R7.out.chg (Chg.of_below [] ba) (by simp))
      have K8 := hid (show Blk (y1.alloc (.cells (repV r).toArray 30)) zr (repV r) 30 from by rw [← hzr]; exact blk_alloc y1 (repV r) 30)
      rw [hzr]
      generalize (y1.alloc (.cells (repV r).toArray 30)) = x1 at L8 S8 R8 K8 ⊢
      clear ba hzr L7 S7 R7
      have Kq := hid (K0.out.below L8.out.1)
      have BW := hid (B0.out.trans (L8.out.1.mono B0.out.size))
      by_cases he : r.e = 0
      · obtain ⟨e1, e2⟩ := HRF.out.1 he
        have c2 : x1.cell? ⟨zr, 2, none⟩ = some (.int .i64 0) := by have := K8.out.get 2 (show (repV r)[2]? = some (.int .i64 r.e) from rfl); rw [he] at this; exact this
        have c0 : x1.cell? ⟨zr, 0, none⟩ = some (.int .u8 (q.client : Int)) := by have := K8.out.get 0 (show (repV r)[0]? = some (.int .u8 (r.client : Int)) from rfl); rw [e1] at this; exact this
        have c1 : x1.cell? ⟨zr, 1, none⟩ = some (.int .u32 (q.seq : Int)) := by have := K8.out.get 1 (show (repV r)[1]? = some (.int .u32 (r.seq : Int)) from rfl); rw [e2] at this; exact this
        have d0 : x1.cell? ⟨z, 0, none⟩ = some (.int .u8 (q.client : Int)) := Kq.out.get 0 rfl
        have d1 : x1.cell? ⟨z, 1, none⟩ = some (.int .u32 (q.seq : Int)) := Kq.out.get 1 rfl
        clear he e1 e2
        go_wp2_with fail
        go_ret
        exact ⟨rfl, BW.out⟩
      · obtain ⟨e1, e2, e3⟩ := HRF.out.2 he
        have c2 : x1.cell? ⟨zr, 2, none⟩ = some (.int .i64 r.e) := K8.out.get 2 rfl
        have c3 : x1.cell? ⟨zr, 3, none⟩ = some (.int .u32 0) := by have := K8.out.get 3 (show (repV r)[3]? = some (.int .u32 (r.job : Int)) from rfl); rw [e3] at this; exact this
        have he' : (r.e == 0) = false := by simpa using he
        rw [e1] at L8
        subst e2
        have HB2 := hid (lbytes_calls L8.out)
        clear he e1 e3
        go_wp2_with (first
          | (go_at_call 20; go_loud (refine HB2.out.mono ?_; rintro e x2 ⟨a2, c2', rfl, hbs, _, hb⟩; have L9 := hid (L8.out.below hb); have HA2 := hid (lactive2_calls L9.out); have HS := hid (same1_calls x2 _ _ _ _ _ hbs (S8.out.below hb)); have R9 := hid (R8.out.chg (Chg.of_below [] hb) (by simp)); have c3 := cell_later hb c3; have BX := hid (BW.out.trans (hb.mono BW.out.size)); clear hb hbs))
          | (go_at_call 21; go_loud (refine HS.out.mono ?_; rintro e x3 ⟨rfl, rfl⟩))
          | (go_at_call 17; go_loud (refine HA2.out.mono ?_; rintro e x4 ⟨a3, c3', rfl, hcs, _, hb⟩; have HS2 := hid (samej_calls x4 _ _ _ _ _ hcs (R9.out.chg (Chg.of_below [] hb) (by simp)) few.out.1); have c3 := cell_later hb c3; have BY := hid (BX.out.trans (hb.mono BX.out.size)); clear hb hcs))
          | (go_at_call 22; go_loud (refine HS2.out.mono ?_; rintro e x5 ⟨rfl, hb⟩; have c3 := cell_later hb c3; have BZ := hid (BY.out.trans (hb.mono BY.out.size)); clear hb)))
        go_ret
        exact ⟨rfl, BZ.out⟩

end Go.Proofs.YtombndhjoaaaiaaDoor
