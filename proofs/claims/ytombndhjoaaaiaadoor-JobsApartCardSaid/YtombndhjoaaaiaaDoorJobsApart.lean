/- JobsApart: what one client asks changes nothing of what another one may ask next. -/
import Derived.Test.YtombndhjoaaaiaaDoorJobM
import Derived.Test.YtombndhjoaaaiaaDoorJobApartM
import Derived.Sort.AtCall
namespace Go.Proofs.YtombndhjoaaaiaaDoor
open Go.RowKit Go.Quad _root_.Quad _root_.Quad.Ink

theorem lcopy_calls {w W : World} {T b : Nat} {t : TbD} {G : List Nat} (h : LT w W T b t G) : Calls Tryd.prog 18 #[.pointer (some ⟨T, 0, none⟩)] W fun e W' => ∃ T2 b2, e = .returned (.pointer (some ⟨T2, 0, none⟩)) ∧ LT W W' T2 b2 t [] := by
  obtain ⟨_, ov, h2, _⟩ := h
  refine (jcopy_calls W w.heap.size T b ov t h2).mono ?_
  rintro e W' ⟨T2, b2, ov2, rfl, h3, hb⟩
  exact ⟨T2, b2, rfl, hb, ov2, h3, by simp⟩
theorem lajob_calls {w W : World} {T b : Nat} {t : TbD} {G : List Nat} (h : LT w W T b t G) (id : Nat) (hi : id < 4294967296) {o : Option JobD} (ho : jobT t id = o) :
    Calls Tryd.prog 13 #[.pointer (some ⟨T, 0, none⟩), .int .u32 (id : Int)] W fun e W' => e = .returned (jobRes o) ∧ Below W.heap.size W W' := by
  obtain ⟨_, ov, h2, _⟩ := h
  subst ho
  exact job_calls W w.heap.size T b ov t id h2 hi
/-- a table and a later one -/
def One (wc W : World) (B T b : Nat) (u : TbD) : Prop := Below wc.heap.size wc W ∧ wc.heap.size ≤ B ∧ ∃ ov, IsTb W B T b ov u
theorem One.below {wc W W' : World} {B T b : Nat} {u : TbD} (h : One wc W B T b u) (hb : Below W.heap.size W W') : One wc W' B T b u := by
  obtain ⟨h1, h2, ov, h3⟩ := h
  exact ⟨h1.trans (hb.mono h1.size), h2, ov, h3.below hb⟩
theorem twodo_calls {wc wd W : World} {T3 b3 T4 b4 : Nat} {t u : TbD} (h3 : LT wc wd T3 b3 t []) (h4 : LT wd W T4 b4 u []) (q : ReqD) (hq : q.Ok) (hl : Laid W) :
    Calls Tryd.prog 11 #[.pointer (some ⟨T3, 0, none⟩), .agg (reqV q).toArray] W fun e W' => e = .returned (doRes (doT t q).2) ∧ One wc W' wd.heap.size T4 b4 u := by
  obtain ⟨h1, ov, h2, _⟩ := h3
  obtain ⟨k1, ov4, k2, _⟩ := h4
  refine (do_calls W wc.heap.size T3 b3 ov t q (h2.below k1) hq hl).mono ?_
  rintro e W' ⟨rfl, ov', h5, h6, h7⟩
  have hB : Below wc.heap.size wc W := h1.trans (k1.mono h1.size)
  refine ⟨rfl, hB.trans (h6.below hB.size (fun k hk => (h2.lt k hk).1)), h1.size, ov4, k2.chg h6 (fun k hk hs => ?_)⟩
  have := (h2.lt k hs).2
  have := (k2.lt k hk).1
  omega
theorem onedo2_calls {wc y : World} {B T b : Nat} {u : TbD} (h : One wc y B T b u) (z : Nat) (hz : y.heap.size = z) (q : ReqD) (hq : q.Ok) (o : Obj) (hl : Laid (y.alloc o)) :
    Calls Tryd.prog 11 #[.pointer (some ⟨T, 0, none⟩), .agg (reqV q).toArray] (y.alloc o) fun e W' => e = .returned (doRes (doT u q).2) ∧ Below wc.heap.size wc W' ∧ W'.heap[z]? = (y.alloc o).heap[z]? := by
  obtain ⟨h1, h2, ov, h3⟩ := h
  have hb := below_alloc y o
  refine (do_calls (y.alloc o) B T b ov u q (h3.below hb) hq hl).mono ?_
  rintro e W' ⟨rfl, ov', h5, h6, h7⟩
  have h8 := h1.trans (hb.mono h1.size)
  exact ⟨rfl, h8.trans (h6.below h8.size (fun k hk => Nat.le_trans h2 (h3.lt k hk).1)), h6.block z (by rw [← hz]; simp) (fun hs => by have := (h3.lt z hs).2; omega)⟩
def PreRel (w : World) (T b len : Nat) (iv : Value) (wr : World) : Prop := ∃ (k : Nat) (t : TbD), iv = .int .i64 (k : Int) ∧ k ≤ len ∧ t.spent ≤ 30 ∧ (k ≤ 30 → t.spent ≤ k) ∧ OnceInv t (fun _ => false) ∧ LT w wr T b t []
def ApRel (n : Nat) (w7 : World) (iv : Value) (wr : World) : Prop := ∃ (k : Nat), iv = .int .i64 (k : Int) ∧ k ≤ n ∧ Below w7.heap.size w7 wr
def ApRel8 (n : Nat) (w7 : World) (iv : Value) (wr : World) : Prop := ∃ (k : Nat), iv = .int .u8 (k : Int) ∧ k ≤ n ∧ Below w7.heap.size w7 wr
def lit4 : List Value := [.int .u32 1, .int .u32 2, .int .u32 3, .int .u32 9]
theorem lit4_get {W : World} {zl : Nat} (h : Blk W zl lit4 28) {k : Nat} (hk : k < 4) : ∃ s : Nat, s < 10 ∧ W.cell? ⟨zl, k, none⟩ = some (.int .u32 (s : Int)) := by
  match k, hk with
  | 0, _ => exact ⟨1, by omega, h.get 0 rfl⟩
  | 1, _ => exact ⟨2, by omega, h.get 1 rfl⟩
  | 2, _ => exact ⟨3, by omega, h.get 2 rfl⟩
  | 3, _ => exact ⟨9, by omega, h.get 3 rfl⟩

set_option maxRecDepth 100000 in
set_option maxHeartbeats 20000000 in
theorem jobsApart_walk (v0 v1 : Value) (w : World) (h0 : RV Tryd.prog w 46 v0) (h1 : RV Tryd.prog w 34 v1) (hq : Laid w) :
    Calls Tryd.prog 5 #[v0, v1] w fun e w' => e = .returned (.bool true) ∧ Below w.heap.size w w' := by
  obtain ⟨a0, cap0, l0, rfl, hok0, hcs0, hlc0⟩ := jops_open h0
  obtain ⟨q, rfl, okq⟩ := jreq_open h1
  have m0 : (l0.length : Int) ≤ 9223372036854775807 := by have := hcs0.max; unfold maxLen at this; omega
  have Hok := hid hok0
  have Hcs := hid hcs0
  have Oq := hid okq
  have hqc : (q.client : Int) ≤ 255 := by have := okq.client; omega
  obtain ⟨z, hz⟩ : ∃ z, w.heap.size = z := ⟨_, rfl⟩
  have K0 := hid (show Blk (w.alloc (.cells (reqV q).toArray 34)) z (reqV q) 34 from by rw [← hz]; exact blk_alloc w (reqV q) 34)
  have B0 := hid (below_alloc w (.cells (reqV q).toArray 34))
  have HZ := hid hz
  have HL := hid (hq.below B0.out hq.1)
  clear hq h0 h1 hok0 hcs0 hlc0 okq hz
  go_enter Tryd.func5, Tryd.ntmps5
  go_upto_region 1 with fail
  rw [HZ.out]
  generalize (w.alloc (.cells (reqV q).toArray 34)) = w0 at K0 B0 HL ⊢
  have hA := hid (jawake_calls w0 HL.out)
  go_upto_region 3 with (go_at_call 9; go_loud (refine hA.out.mono ?_; rintro e w1 ⟨rfl, hb⟩; have hN := hid (lnew_calls w0 w1 hb); clear hb))
  go_upto_region 4 with (go_at_call 10; go_loud (refine hN.out.mono ?_; rintro e w2 ⟨T, b, rfl, hl0⟩; have L0 := hid hl0; clear hl0))
  clear hA hN
  go_wp2_with fail
  go_loopw [32] (fun iv wr => PreRel w0 T b l0.length iv wr) (fun iv _ => l0.length - (intOf iv).toNat)
  case atStart => exact ⟨0, tJ 0 0, rfl, Nat.zero_le _, Nat.zero_le _, fun _ => Nat.le_refl _, ⟨fun id h => (by cases h), fun o ho => (by cases ho)⟩, L0.out⟩
  case round =>
    clear L0
    obtain ⟨k, t, rfl, hk, hs30, hsk, hinv, hL⟩ := hrel
    have L := hid hL
    have HI := hid hinv
    have H30 := hid hs30
    have Hsk := hid hsk
    clear hL hinv hs30 hsk
    by_cases hkl : k < l0.length
    · have hkl' : (k : Int) < (l0.length : Int) := by omega
      have Ho := hid (Hok.out _ (List.getElem_mem hkl))
      obtain ⟨bo, off, rfl, hc⟩ := cs_row jopV_length Hcs.out hkl (by decide)
      have HR := hid (show wr.rangeAt bo (off + k * 9) (jopV l0[k]) from fun j v hv => cell_later (B0.out.trans (L.out.1.mono B0.out.size)) (hc j v hv))
      clear hc
      generalize l0[k] = o at Ho HR
      have HKL := hid hkl
      clear hkl
      go_upto_region 7 with (first | (refine wpList_load_row6 (o := ⟨some 36, _, _, _, _, _⟩) 48 (.tmp 35) rfl rfl bo (off + k * 9) (jopV o) rfl HR.out row_jop size_jop ?_) | (refine wpListQ_alloc (o := ⟨some 8, _, _, _, _, _⟩) 48 rfl rfl zjop 9 info_jop ?_) | (refine wpListQ_store_new (o := ⟨none, _, 0, _, _, _⟩) rfl 48 (.tmp 8) (.tmp 36) rfl zjop (jopV o).toArray rfl rfl size_jop rfl (all_oneCell_toArray (jopV_one _)) ?_))
      obtain ⟨zq, hzq⟩ : ∃ z, wr.heap.size = z := ⟨_, rfl⟩
      have LQ := hid (L.out.below (below_alloc wr (.cells (jopV o).toArray 48)))
      have KQ := hid (show Blk (wr.alloc (.cells (jopV o).toArray 48)) zq (jopV o) 48 from by rw [← hzq]; exact blk_alloc wr (jopV o) 48)
      rw [hzq]
      generalize (wr.alloc (.cells (jopV o).toArray 48)) = wq at LQ KQ ⊢
      clear hzq HR L
      by_cases hk3 : k < 30
      · have hk3' : (k : Int) < 30 := by omega
        have D1 := hid (ldo_calls LQ.out o.q Ho.out.q HL.out)
        have RQ := hid (show wq.rangeAt zq 1 (reqV o.q) from blk_part KQ.out 1 7)
        have HST := hid (StepT.do' LQ.out.ok o.q)
        have HI1 := hid (HI.out.step LQ.out.ok HST.out)
        go_wp2_with (first | (refine wpList_load_row6 (o := ⟨some 41, _, _, _, _, _⟩) 34 (.tmp 40) rfl rfl zq 1 (reqV o.q) rfl RQ.out row_req size_req ?_) | (go_at_call 11; go_loud (refine D1.out.mono ?_; rintro e y1 ⟨rfl, hl, _⟩; have L1 := hid hl; clear hl)))
        have hkl := HKL.out
        have R : PreRel w0 T b l0.length (.int .i64 ((k : Int) + 1)) y1 := ⟨k + 1, _, by simp, hkl, by have := HST.out.sp; have := Hsk.out (by omega); omega, fun _ => by have := HST.out.sp; have := Hsk.out (by omega); omega, HI1.out, L1.out⟩
        refine ⟨?_, ?_⟩
        · first | exact R | ((repeat apply Exists.intro); refine ⟨R, ?_⟩; and_intros <;> rfl)
        · simp [intOf]
          omega
      · have hk3' : ¬ ((k : Int) < 30) := by omega
        go_wp2_with fail
        have hkl := HKL.out
        have R : PreRel w0 T b l0.length (.int .i64 ((k : Int) + 1)) wq := ⟨k + 1, t, by simp, hkl, H30.out, fun h => absurd h (by omega), HI.out, LQ.out⟩
        refine ⟨?_, ?_⟩
        · first | exact R | ((repeat apply Exists.intro); refine ⟨R, ?_⟩; and_intros <;> rfl)
        · simp [intOf]
          omega
    · have hkl' : ¬ ((k : Int) < (l0.length : Int)) := by omega
      clear hkl
      have HAc := hid (lactive_calls L.out)
      obtain ⟨BA, hBA⟩ : ∃ B, wr.heap.size = B := ⟨_, rfl⟩
      rw [hBA] at HAc
      have HBA := hid hBA
      clear hBA
      have Kr := hid (K0.out.below L.out.1)
      have few := hid L.out.ok.few
      have fa : (t.active.length : Int) ≤ 64 := by have := few.out.1; omega
      obtain ⟨u, hu⟩ : ∃ u, (doT t q).1 = u := ⟨_, rfl⟩
      have HU := hid hu
      have Tok := hid L.out.ok
      clear hu
      go_upto_region 11 with (go_at_call 17; go_loud (refine HAc.out.mono ?_; rintro e w5 ⟨aa, ca, rfl, hr, hb⟩; have hb := HBA.out ▸ hb; have L5 := hid (L.out.below hb); have K5 := hid (Kr.out.below hb); have R5 := hid hr; clear hr hb))
      clear HAc L Kr
      have HCo := hid (lcopy_calls L5.out)
      go_upto_region 12 with (go_at_call 18; go_loud (refine HCo.out.mono ?_; rintro e w6 ⟨T2, b2, rfl, hl⟩; have U6 := hid hl; clear hl))
      clear HCo
      have HL5 := hid (L5.out.laid HL.out)
      have D2 := ldo_calls U6.out q Oq.out HL5.out
      rw [HU.out] at D2
      have HD2 := hid D2
      have K6 := hid (K5.out.below U6.out.1)
      have RQ := hid (show w6.rangeAt z 0 (reqV q) from blk_part K6.out 0 7)
      clear D2
      go_upto_region 13 with (first | (refine wpList_load_row6 (o := ⟨some 49, _, _, _, _, _⟩) 34 (.tmp 3) rfl rfl z 0 (reqV q) rfl RQ.out row_req size_req ?_) | (go_at_call 11; go_loud (refine HD2.out.mono ?_; rintro e w7 ⟨rfl, hl, _⟩; have U7 := hid hl; clear hl; simp only [doRes])))
      clear HD2 RQ U6
      have L7 := hid (L5.out.below U7.out.1)
      have K7 := hid (K5.out.below U7.out.1)
      have R7 := hid (R5.out.below U7.out.1)
      clear L5 K5 R5 K6
      go_wp2_with fail
      go_loopw [53] (fun iv wr => ApRel t.active.length w7 iv wr) (fun iv _ => t.active.length - (intOf iv).toNat)
      case atStart => exact ⟨0, rfl, Nat.zero_le _, Below.refl _ _⟩
      case round =>
        obtain ⟨k2, rfl, hk2, hb2⟩ := hrel
        have B2 := hid hb2
        clear hb2
        by_cases hk2l : k2 < t.active.length
        · have hk2l' : (k2 : Int) < (t.active.length : Int) := by omega
          obtain ⟨a', n', cap', hv', _, _, hcs⟩ := (R7.out.below B2.out).cs
          obtain ⟨rfl, rfl, rfl⟩ : aa = a' ∧ t.active.length = n' ∧ ca = cap' := by simpa using hv'
          obtain ⟨bj, offj, rfl, hc⟩ := cs_row jobV_length hcs hk2l (by decide)
          obtain ⟨j, hj⟩ : ∃ j, t.active[k2] = j := ⟨_, rfl⟩
          have hjm : j ∈ t.active := hj ▸ List.getElem_mem hk2l
          rw [hj] at hc
          have HR := hid (show wr.rangeAt bj (offj + k2 * 6) (jobV j) from hc)
          have hid1 : j.id < 4294967296 := by have := (Tok.out.ids j hjm).2; have := Tok.out.spent; omega
          have HID := hid hid1
          have hst : j.state < 4 := Tok.out.st j hjm
          have HAP := hid (show jobT u j.id = some j ∨ (q.kind = 2 ∧ q.job = j.id ∧ jobT u j.id = some { j with state := 5 }) from by have := apart_job Tok.out HI.out.dis hjm q; rw [HU.out] at this; exact this)
          clear hc hcs hv' hj hjm hid1
          go_upto_region 16 with (first | (refine wpList_load_row6 (o := ⟨some 56, _, _, _, _, _⟩) 37 (.tmp 55) rfl rfl bj (offj + k2 * 6) (jobV j) rfl HR.out row_job size_job ?_) | (refine wpListQ_alloc (o := ⟨some 12, _, _, _, _, _⟩) 37 rfl rfl zjob 6 info_job ?_) | (refine wpListQ_store_new (o := ⟨none, _, 0, _, _, _⟩) rfl 37 (.tmp 12) (.tmp 56) rfl zjob (jobV j).toArray rfl rfl size_job rfl (all_oneCell_toArray (jobV_one _)) ?_))
          obtain ⟨zj, hzj⟩ : ∃ z, wr.heap.size = z := ⟨_, rfl⟩
          have Bx := hid (B2.out.trans ((below_alloc wr (.cells (jobV j).toArray 37)).mono B2.out.size))
          have Kx := hid (show Blk (wr.alloc (.cells (jobV j).toArray 37)) zj (jobV j) 37 from by rw [← hzj]; exact blk_alloc wr (jobV j) 37)
          rw [hzj]
          generalize (wr.alloc (.cells (jobV j).toArray 37)) = x1 at Bx Kx ⊢
          clear hzj HR B2
          have c0 := Kx.out.get 0 rfl
          rcases HAP.out with hJ | ⟨hkd, hjb, hJ⟩
          · have HJ := hid (lajob_calls (U7.out.below Bx.out) j.id HID.out hJ)
            clear hJ
            go_upto_region 17 with (first | (go_at_call 13; go_loud (refine HJ.out.mono ?_; rintro e y1 ⟨rfl, hb⟩; have By := hid (Bx.out.trans (hb.mono Bx.out.size)); have Ky := hid (Kx.out.below hb); clear hb; simp only [jobRes, Option.getD_some, Option.isSome_some])) | (refine wpListQ_alloc (o := ⟨some 13, _, _, _, _, _⟩) 37 rfl rfl zjob 6 info_job ?_) | (refine wpListQ_store_new (o := ⟨none, _, 0, _, _, _⟩) rfl 37 (.tmp 13) (.tmp 62) rfl zjob (jobV j).toArray rfl rfl size_job rfl (all_oneCell_toArray (jobV_one _)) ?_))
            obtain ⟨zk, hzk⟩ : ∃ z, y1.heap.size = z := ⟨_, rfl⟩
            have Bz := hid (By.out.trans ((below_alloc y1 (.cells (jobV j).toArray 37)).mono By.out.size))
            have Kz := hid (show Blk (y1.alloc (.cells (jobV j).toArray 37)) zk (jobV j) 37 from by rw [← hzk]; exact blk_alloc y1 (jobV j) 37)
            have Kj := hid (Ky.out.below (below_alloc y1 (.cells (jobV j).toArray 37)))
            rw [hzk]
            generalize (y1.alloc (.cells (jobV j).toArray 37)) = x2 at Bz Kz Kj ⊢
            clear hzk By Ky HJ c0
            have Kq := hid ((K7.out).below Bz.out)
            have a0 : x2.cell? ⟨zj, 0, none⟩ = some (.int .u32 (j.id : Int)) := Kj.out.get 0 rfl
            have b0 : x2.cell? ⟨zk, 0, none⟩ = some (.int .u32 (j.id : Int)) := Kz.out.get 0 rfl
            have a1 : x2.cell? ⟨zj, 1, none⟩ = some (.int .u8 (j.tier : Int)) := Kj.out.get 1 rfl
            have b1 : x2.cell? ⟨zk, 1, none⟩ = some (.int .u8 (j.tier : Int)) := Kz.out.get 1 rfl
            have a2 : x2.cell? ⟨zj, 2, none⟩ = some (.int .i64 j.k) := Kj.out.get 2 rfl
            have b2 : x2.cell? ⟨zk, 2, none⟩ = some (.int .i64 j.k) := Kz.out.get 2 rfl
            have a3 : x2.cell? ⟨zj, 3, none⟩ = some (.int .i64 j.w) := Kj.out.get 3 rfl
            have b3 : x2.cell? ⟨zk, 3, none⟩ = some (.int .i64 j.w) := Kz.out.get 3 rfl
            have a4 : x2.cell? ⟨zj, 4, none⟩ = some (.int .u8 (j.state : Int)) := Kj.out.get 4 rfl
            have b4 : x2.cell? ⟨zk, 4, none⟩ = some (.int .u8 (j.state : Int)) := Kz.out.get 4 rfl
            have a5 : x2.cell? ⟨zj, 5, none⟩ = some (.int .i64 j.credit) := Kj.out.get 5 rfl
            have b5 : x2.cell? ⟨zk, 5, none⟩ = some (.int .i64 j.credit) := Kz.out.get 5 rfl
            go_wp2_with fail
            have R : ApRel t.active.length w7 (.int .i64 ((k2 : Int) + 1)) x2 := ⟨k2 + 1, by simp, hk2l, Bz.out⟩
            refine ⟨?_, ?_⟩
            · first | exact R | ((repeat apply Exists.intro); refine ⟨R, ?_⟩; and_intros <;> rfl)
            · simp [intOf]
              omega
          · have HJ := hid (lajob_calls (U7.out.below Bx.out) j.id HID.out hJ)
            clear hJ
            go_upto_region 17 with (first | (go_at_call 13; go_loud (refine HJ.out.mono ?_; rintro e y1 ⟨rfl, hb⟩; have By := hid (Bx.out.trans (hb.mono Bx.out.size)); have Ky := hid (Kx.out.below hb); clear hb; simp only [jobRes, Option.getD_some, Option.isSome_some])) | (refine wpListQ_alloc (o := ⟨some 13, _, _, _, _, _⟩) 37 rfl rfl zjob 6 info_job ?_) | (refine wpListQ_store_new (o := ⟨none, _, 0, _, _, _⟩) rfl 37 (.tmp 13) (.tmp 62) rfl zjob (jobV ({ j with state := 5 } : JobD)).toArray rfl rfl size_job rfl (all_oneCell_toArray (jobV_one _)) ?_))
            obtain ⟨zk, hzk⟩ : ∃ z, y1.heap.size = z := ⟨_, rfl⟩
            have Bz := hid (By.out.trans ((below_alloc y1 (.cells (jobV ({ j with state := 5 } : JobD)).toArray 37)).mono By.out.size))
            have Kz := hid (show Blk (y1.alloc (.cells (jobV ({ j with state := 5 } : JobD)).toArray 37)) zk (jobV ({ j with state := 5 } : JobD)) 37 from by rw [← hzk]; exact blk_alloc y1 (jobV ({ j with state := 5 } : JobD)) 37)
            have Kj := hid (Ky.out.below (below_alloc y1 (.cells (jobV ({ j with state := 5 } : JobD)).toArray 37)))
            rw [hzk]
            generalize (y1.alloc (.cells (jobV ({ j with state := 5 } : JobD)).toArray 37)) = x2 at Bz Kz Kj ⊢
            clear hzk By Ky HJ c0
            have Kq := hid ((K7.out).below Bz.out)
            have a0 : x2.cell? ⟨zj, 0, none⟩ = some (.int .u32 (j.id : Int)) := Kj.out.get 0 rfl
            have b0 : x2.cell? ⟨zk, 0, none⟩ = some (.int .u32 (j.id : Int)) := Kz.out.get 0 rfl
            have a1 : x2.cell? ⟨zj, 1, none⟩ = some (.int .u8 (j.tier : Int)) := Kj.out.get 1 rfl
            have b1 : x2.cell? ⟨zk, 1, none⟩ = some (.int .u8 (j.tier : Int)) := Kz.out.get 1 rfl
            have a2 : x2.cell? ⟨zj, 2, none⟩ = some (.int .i64 j.k) := Kj.out.get 2 rfl
            have b2 : x2.cell? ⟨zk, 2, none⟩ = some (.int .i64 j.k) := Kz.out.get 2 rfl
            have a3 : x2.cell? ⟨zj, 3, none⟩ = some (.int .i64 j.w) := Kj.out.get 3 rfl
            have b3 : x2.cell? ⟨zk, 3, none⟩ = some (.int .i64 j.w) := Kz.out.get 3 rfl
            have a4 : x2.cell? ⟨zj, 4, none⟩ = some (.int .u8 (j.state : Int)) := Kj.out.get 4 rfl
            have b4 : x2.cell? ⟨zk, 4, none⟩ = some (.int .u8 5) := Kz.out.get 4 rfl
            have a5 : x2.cell? ⟨zj, 5, none⟩ = some (.int .i64 j.credit) := Kj.out.get 5 rfl
            have b5 : x2.cell? ⟨zk, 5, none⟩ = some (.int .i64 j.credit) := Kz.out.get 5 rfl
            have s1 : ¬ ((5 : Int) = (j.state : Int)) := by omega
            have q2 : x2.cell? ⟨z, 2, none⟩ = some (.int .u8 2) := by have := Kq.out.get 2 (show (reqV q)[2]? = some (.int .u8 (q.kind : Int)) from rfl); rw [hkd] at this; exact this
            have q6 : x2.cell? ⟨z, 6, none⟩ = some (.int .u32 (j.id : Int)) := by have := Kq.out.get 6 (show (reqV q)[6]? = some (.int .u32 (q.job : Int)) from rfl); rw [hjb] at this; exact this
            clear hkd hjb
            go_wp2_with fail
            have R : ApRel t.active.length w7 (.int .i64 ((k2 : Int) + 1)) x2 := ⟨k2 + 1, by simp, hk2l, Bz.out⟩
            refine ⟨?_, ?_⟩
            · first | exact R | ((repeat apply Exists.intro); refine ⟨R, ?_⟩; and_intros <;> rfl)
            · simp [intOf]
              omega
        · have hk2l' : ¬ ((k2 : Int) < (t.active.length : Int)) := by omega
          clear hk2l
          go_wp2_with fail
          go_loopw [85] (fun iv wr => ApRel8 8 w7 iv wr) (fun iv _ => 8 - (intOf iv).toNat)
          case atStart => exact ⟨0, rfl, Nat.zero_le _, B2.out⟩
          case round =>
            clear B2
            obtain ⟨c, rfl, hc8, hb3⟩ := hrel
            have B3 := hid hb3
            clear hb3
            by_cases hcl : c < 8
            · have hcl' : (c : Int) < 8 := by omega
              have c0 : wr.cell? ⟨z, 0, none⟩ = some (.int .u8 (q.client : Int)) := (K7.out.below B3.out).get 0 rfl
              by_cases hcq : c = q.client
              · have hcq' : (c : Int) = (q.client : Int) := by omega
                have hq8 : q.client < 8 := by omega
                have HQ8 := hid hq8
                clear hcq hq8
                go_wp2_with fail
                have R : ApRel8 8 w7 (.int .u8 ((q.client : Int) + 1)) wr := ⟨q.client + 1, by simp, HQ8.out, B3.out⟩
                refine ⟨?_, ?_⟩
                · first | exact R | ((repeat apply Exists.intro); refine ⟨R, ?_⟩; and_intros <;> rfl)
                · simp [intOf]
                  omega
              · have hcq' : ¬ ((c : Int) = (q.client : Int)) := by omega
                have HCQ := hid hcq
                have HCL := hid hcl
                clear hcq hcl
                go_upto_region 25 with fail
                obtain ⟨zl, hzl⟩ : ∃ z, wr.heap.size = z := ⟨_, rfl⟩
                have KL := hid (show Blk (wr.alloc (.cells #[.int .u32 1, .int .u32 2, .int .u32 3, .int .u32 9] 28)) zl lit4 28 from by rw [← hzl]; exact blk_alloc wr lit4 28)
                have B4 := hid (B3.out.trans ((below_alloc wr (.cells #[.int .u32 1, .int .u32 2, .int .u32 3, .int .u32 9] 28)).mono B3.out.size))
                rw [hzl]
                generalize (wr.alloc (.cells #[.int .u32 1, .int .u32 2, .int .u32 3, .int .u32 9] 28)) = wl at KL B4 ⊢
                have e91 : ((c : Int) == (q.client : Int)) = false := by simpa using hcq'
                simp only [e91]
                clear hzl B3 c0 hcq' e91
                go_wp2_with fail
                go_loopw [94] (fun iv wr => ApRel 4 wl iv wr) (fun iv _ => 4 - (intOf iv).toNat)
                case atStart => exact ⟨0, rfl, Nat.zero_le _, Below.refl _ _⟩
                case round =>
                  obtain ⟨k4, rfl, hk4, hb5⟩ := hrel
                  have B5 := hid hb5
                  clear hb5
                  by_cases hk4l : k4 < 4
                  · have hk4l' : (k4 : Int) < 4 := by omega
                    obtain ⟨s, hs, d0⟩ := lit4_get (KL.out.below B5.out) hk4l
                    have HK4 := hid hk4l
                    have hs10 : (s : Int) < 10 := by omega
                    have HS10 := hid hs
                    have B7 := hid (B4.out.trans (B5.out.mono B4.out.size))
                    have HC3 := hid (lcopy_calls (L7.out.below B7.out))
                    have QO := hid (cq_ok (c := c) (s := s) (by have := HCL.out; omega) (by omega))
                    have HRP := hid (show (doT u (cq c s)).2.1 = (doT t (cq c s)).2.1 from by have := apart_reply Tok.out q (by rw [HU.out]; exact U7.out.ok) (by have := H30.out; omega) HCQ.out s; rw [HU.out] at this; exact this)
                    clear hk4l hs
                    go_upto_region 27 with fail
                    go_upto_region 28 with (first
                      | (go_at_call_of 18 (Value.pointer (some ⟨T, 0, none⟩)); go_loud (refine HC3.out.mono ?_; rintro e wd ⟨T3, b3, rfl, hl⟩; have T3L := hid hl; clear hl; have HC4 := hid (lcopy_calls ((U7.out.below B7.out).below T3L.out.1))))
                      | (go_at_call_of 18 (Value.pointer (some ⟨T2, 0, none⟩)); go_loud (refine HC4.out.mono ?_; rintro e we ⟨T4, b4, rfl, hl⟩; have T4L := hid hl; clear hl)))
                    clear HC3 HC4
                    have HLe := hid (T4L.out.laid (T3L.out.laid ((L7.out.below B7.out).laid HL.out)))
                    obtain ⟨⟨r, f1⟩, hr1⟩ : ∃ x, (doT t (cq c s)).2 = x := ⟨_, rfl⟩
                    obtain ⟨⟨r', f2⟩, hr2⟩ : ∃ x, (doT u (cq c s)).2 = x := ⟨_, rfl⟩
                    obtain rfl : r = r' := by have := HRP.out; rw [hr1, hr2] at this; exact this.symm
                    have D3 := twodo_calls T3L.out T4L.out (cq c s) QO.out HLe.out
                    rw [hr1, show (reqV (cq c s)).toArray = #[.int .u8 (c : Int), .int .u32 (s : Int), .int .u8 2, .int .u8 0, .int .i64 0, .int .i64 0, .int .u32 77] from rfl] at D3
                    have HD3 := hid D3
                    have HR2 := hid hr2
                    clear D3 hr1 hr2 HRP d0
                    go_upto_region 29 with (first | (go_at_call 11; go_loud (refine HD3.out.mono ?_; rintro e y3 ⟨rfl, ho⟩; have O3 := hid ho; clear ho; simp only [doRes])) | (refine wpListQ_alloc (o := ⟨some 20, _, _, _, _, _⟩) 30 rfl rfl zrep 6 info_rep ?_) | (refine wpListQ_store_new (o := ⟨none, _, 0, _, _, _⟩) rfl 30 (.tmp 20) (.tmp 108) rfl zrep (repV r).toArray rfl rfl size_rep rfl (all_oneCell_toArray (repV_one _)) ?_))
                    clear HD3
                    obtain ⟨z3, hz3⟩ : ∃ z, y3.heap.size = z := ⟨_, rfl⟩
                    have O4 := hid (O3.out.below (below_alloc y3 (.cells (repV r).toArray 30)))
                    have K3 := hid (show Blk (y3.alloc (.cells (repV r).toArray 30)) z3 (repV r) 30 from by rw [← hz3]; exact blk_alloc y3 (repV r) 30)
                    have HT4 := hid (show ∀ ov, IsTb y3 wd.heap.size T4 b4 ov u → ∀ k ∈ tbS T4 b4 ov, k < z3 from fun ov h k hk => by rw [← hz3]; exact (h.lt k hk).2)
                    have HZ3 := hid (show y3.heap.size = z3 from hz3)
                    rw [hz3]
                    have HLx := hid (show Laid (y3.alloc (.cells (repV r).toArray 30)) from HL.out.below ((L7.out.1.trans (B7.out.mono L7.out.1.size)).trans (O4.out.1.mono (Nat.le_trans L7.out.1.size B7.out.size))) HL.out.1)
                    have D4 := onedo2_calls O3.out z3 HZ3.out (cq c s) QO.out (.cells (repV r).toArray 30) HLx.out
                    rw [HR2.out, show (reqV (cq c s)).toArray = #[.int .u8 (c : Int), .int .u32 (s : Int), .int .u8 2, .int .u8 0, .int .i64 0, .int .i64 0, .int .u32 77] from rfl] at D4
                    have HD4 := hid D4
                    clear D4 HR2 hz3 HT4 HZ3 HLx
                    generalize (y3.alloc (.cells (repV r).toArray 30)) = x3 at O4 K3 HD4 ⊢
                    go_upto_region 30 with (first | (go_at_call 11; go_loud (refine HD4.out.mono ?_; rintro e y4 ⟨rfl, hb, hk⟩; have O5 := hid hb; have K4 := hid (blk_same K3.out hk); clear hb hk; simp only [doRes])) | (refine wpListQ_alloc (o := ⟨some 22, _, _, _, _, _⟩) 30 rfl rfl zrep 6 info_rep ?_) | (refine wpListQ_store_new (o := ⟨none, _, 0, _, _, _⟩) rfl 30 (.tmp 22) (.tmp 116) rfl zrep (repV r).toArray rfl rfl size_rep rfl (all_oneCell_toArray (repV_one _)) ?_))
                    clear HD4
                    obtain ⟨z5, hz5⟩ : ∃ z, y4.heap.size = z := ⟨_, rfl⟩
                    have B8 := hid (O5.out.trans ((below_alloc y4 (.cells (repV r).toArray 30)).mono O5.out.size))
                    have K5 := hid (K4.out.below (below_alloc y4 (.cells (repV r).toArray 30)))
                    have K6 := hid (show Blk (y4.alloc (.cells (repV r).toArray 30)) z5 (repV r) 30 from by rw [← hz5]; exact blk_alloc y4 (repV r) 30)
                    rw [hz5]
                    generalize (y4.alloc (.cells (repV r).toArray 30)) = x5 at B8 K5 K6 ⊢
                    clear hz5
                    have a0 := K5.out.get 0 rfl
                    have b0 := K6.out.get 0 rfl
                    have a1 := K5.out.get 1 rfl
                    have b1 := K6.out.get 1 rfl
                    have a2 := K5.out.get 2 rfl
                    have b2 := K6.out.get 2 rfl
                    have a3 := K5.out.get 3 rfl
                    have b3 := K6.out.get 3 rfl
                    have a4 := K5.out.get 4 rfl
                    have b4 := K6.out.get 4 rfl
                    have a5 := K5.out.get 5 rfl
                    have b5 := K6.out.get 5 rfl
                    go_wp2_with fail
                    have R : ApRel 4 wl (.int .i64 ((k4 : Int) + 1)) x5 := ⟨k4 + 1, by simp, HK4.out, B5.out.trans (B8.out.mono B5.out.size)⟩
                    refine ⟨?_, ?_⟩
                    · first | exact R | ((repeat apply Exists.intro); refine ⟨R, ?_⟩; and_intros <;> rfl)
                    · simp [intOf]
                      omega
                  · have hk4l' : ¬ ((k4 : Int) < 4) := by omega
                    clear hk4l
                    go_wp2_with fail
                    have hcl := HCL.out
                    have R : ApRel8 8 w7 (.int .u8 ((c : Int) + 1)) wr := ⟨c + 1, by simp, hcl, B4.out.trans (B5.out.mono B4.out.size)⟩
                    refine ⟨?_, ?_⟩
                    · first | exact R | ((repeat apply Exists.intro); refine ⟨R, ?_⟩; and_intros <;> rfl)
                    · simp [intOf]
                      omega
            · have hcl' : ¬ ((c : Int) < 8) := by omega
              clear hcl
              go_wp2_with fail
              go_ret
              exact ⟨rfl, B0.out.trans ((L7.out.1.trans (B3.out.mono L7.out.1.size)).mono B0.out.size)⟩

end Go.Proofs.YtombndhjoaaaiaaDoor
