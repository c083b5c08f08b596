/- The walks of layer 16: the document's table: find, Job, get; asked: that the table is whole. (Several texts in one: JobR, JobS, JobT, JobU, JobV, JobW, JobX.) -/
import Derived.Test.YtombndhjoaaaiaaDoorJobM
import Derived.RegionTactic
import Derived.BigRegion
import Derived.Deep.RegionLaw

/- The walks of layer 16: the document's table: find, Job, get; asked: that the table is whole. -/
namespace Go.Proofs.YtombndhjoaaaiaaDoor
open Go.RowKit Go.Quad _root_.Quad _root_.Quad.Ink

/-- the document's table -/
def xV (t : TbD) (av ov : Value) : List Value := [.int .i64 t.nodes, .int .u32 (t.spent : Int), av, ov] ++ t.last.flatMap repV
structure IsX (w : World) (B X : Nat) (av ov : Value) (t : TbD) : Prop where
  own : Blk w X (xV t av ov) 100
  act : JR w B av t.active
  over : JR w B ov t.over
  ge : B ≤ X
  ok : t.Ok
def xS (X : Nat) (av ov : Value) : List Nat := X :: (av.ownBlock.toList ++ ov.ownBlock.toList)
theorem IsX.lt {w : World} {B X : Nat} {av ov : Value} {t : TbD} (h : IsX w B X av ov t) : ∀ k ∈ xS X av ov, B ≤ k ∧ k < w.heap.size := fun k hk => by
  rcases List.mem_cons.1 hk with rfl | hk
  · exact ⟨h.ge, h.own.lt⟩
  · rcases List.mem_append.1 hk with hk | hk
    · have := h.act.own (k := k) (by simpa using hk)
      exact ⟨this.1, this.2.1⟩
    · have := h.over.own (k := k) (by simpa using hk)
      exact ⟨this.1, this.2.1⟩
theorem IsX.chg {S : List Nat} {w w' : World} {B X : Nat} {av ov : Value} {t : TbD} (h : IsX w B X av ov t) (hc : Chg S w w') (hs : ∀ k ∈ xS X av ov, k ∉ S) : IsX w' B X av ov t :=
  ⟨h.own.keep hc (hs X (by simp [xS])), h.act.chg hc (fun k hk => hs k (by simp [xS, hk])), h.over.chg hc (fun k hk => hs k (by simp [xS, hk])), h.ge, h.ok⟩
theorem IsX.below {w w' : World} {B X : Nat} {av ov : Value} {t : TbD} (h : IsX w B X av ov t) (hb : Below w.heap.size w w') : IsX w' B X av ov t := h.chg (Chg.of_below [] hb) (by simp)
def findI : List JobD → Nat → Int
  | [], _ => -1
  | x :: l, id => if x.id = id then 0 else if findI l id < 0 then -1 else findI l id + 1
theorem findI_none {l : List JobD} {id : Nat} (h : ∀ x ∈ l, x.id ≠ id) : findI l id = -1 := by
  induction l with
  | nil => rfl
  | cons x l ih =>
    have e := ih fun y hy => h y (List.mem_cons_of_mem _ hy)
    unfold findI
    rw [if_neg (h x (List.mem_cons_self ..)), e, if_pos (by decide)]
theorem findI_some : ∀ {l : List JobD} {id k : Nat} (hk : k < l.length), l[k].id = id → (∀ i, (hi : i < k) → (l[i]'(by omega)).id ≠ id) → findI l id = (k : Int)
  | [], _, _, hk, _, _ => absurd hk (by simp)
  | x :: l, id, 0, _, h, _ => by
    unfold findI
    rw [if_pos (by simpa using h)]
    rfl
  | x :: l, id, k + 1, hk, h, hn => by
    have e := findI_some (l := l) (id := id) (k := k) (by simpa using hk) (by simpa using h) (fun i hi => by simpa using hn (i + 1) (by omega))
    unfold findI
    rw [if_neg (by simpa using hn 0 (by omega)), e, if_neg (by omega)]
    omega
def FiRel (w : World) (l : List JobD) (id : Nat) (iv : Value) (wr : World) : Prop := ∃ k : Nat, iv = .int .i64 (k : Int) ∧ k ≤ l.length ∧ Below w.heap.size w wr ∧ ∀ i, (hi : i < k) → (hl : i < l.length) → l[i].id ≠ id

set_option maxRecDepth 100000 in
set_option maxHeartbeats 8000000 in
theorem rfind_calls (w : World) (a : Option Addr) (cap : Nat) (l : List JobD) (id : Nat) (hc : CS w a cap 6 (l.flatMap jobV)) (hn : l.length ≤ 64) (hi : id < 4294967296) :
    Calls Tryd.prog 70 #[.slice a l.length cap, .int .u32 (id : Int)] w fun e w' => e = .returned (.int .i64 (findI l id)) ∧ Below w.heap.size w w' := by
  have HC := hid hc
  have n64 : (l.length : Int) ≤ 64 := by omega
  have hiI : (id : Int) ≤ 4294967295 := by omega
  clear hc
  go_enter Tryd.func70, Tryd.ntmps70
  go_wp2_with fail
  go_loopw [9] (fun iv wr => FiRel w l id iv wr) (fun iv _ => l.length - (intOf iv).toNat)
  case atStart => exact ⟨0, rfl, Nat.zero_le _, Below.refl _ _, fun i hi => absurd hi (Nat.not_lt_zero _)⟩
  case round =>
    obtain ⟨k, rfl, hk, hb, hno⟩ := hrel
    have B := hid hb
    have HNo := hid hno
    clear hb hno
    by_cases hkl : k < l.length
    · have hkl' : (k : Int) < (l.length : Int) := by omega
      obtain ⟨b1, o1, rfl, hc1⟩ := cs_row jobV_length HC.out hkl (by decide)
      have HR := hid (show wr.rangeAt b1 (o1 + k * 6) (jobV l[k]) from fun j v hv => cell_later B.out (hc1 j v hv))
      obtain ⟨j, hj⟩ : ∃ j, l[k] = j := ⟨_, rfl⟩
      rw [hj] at HR
      have HJ := hid hj
      have HKL := hid hkl
      clear hc1 hj
      go_upto_region 4 with (first | (refine wpList_load_row6 (o := ⟨some 13, _, _, _, _, _⟩) 37 (.tmp 12) rfl rfl b1 (o1 + k * 6) (jobV j) rfl HR.out row_job size_job ?_) | (refine wpListQ_alloc (o := ⟨some 6, _, _, _, _, _⟩) 37 rfl rfl zjob 6 info_job ?_) | (refine wpListQ_store_new (o := ⟨none, _, 0, _, _, _⟩) rfl 37 (.tmp 6) (.tmp 13) rfl zjob (jobV j).toArray rfl rfl size_job rfl (all_oneCell_toArray (jobV_one _)) ?_))
      obtain ⟨z, hz⟩ : ∃ z, wr.heap.size = z := ⟨_, rfl⟩
      have B2 := hid (B.out.trans ((below_alloc wr (.cells (jobV j).toArray 37)).mono B.out.size))
      have K2 := hid (show Blk (wr.alloc (.cells (jobV j).toArray 37)) z (jobV j) 37 from by rw [← hz]; exact blk_alloc wr (jobV j) 37)
      rw [hz]
      generalize (wr.alloc (.cells (jobV j).toArray 37)) = x1 at B2 K2 ⊢
      clear hz HR B
      have c0 := K2.out.get 0 rfl
      by_cases e : j.id = id
      · have e' : (j.id : Int) = (id : Int) := by omega
        have HF := hid (findI_some (id := id) HKL.out (by rw [HJ.out]; exact e) (fun i hi => HNo.out i hi (by have := HKL.out; omega)))
        clear e
        go_wp2_with fail
        go_ret
        exact ⟨by rw [HF.out]; rfl, B2.out⟩
      · have e' : ¬ ((j.id : Int) = (id : Int)) := by omega
        have HE := hid e
        clear e
        go_wp2_with fail
        have hkl := HKL.out
        have R : FiRel w l id (.int .i64 ((k : Int) + 1)) x1 := ⟨k + 1, by simp, hkl, B2.out, fun i hi hl => by
          by_cases e : i < k
          · exact HNo.out i e hl
          · obtain rfl : i = k := by omega
            rw [HJ.out]; exact HE.out⟩
        refine ⟨?_, ?_⟩
        · first | exact R | ((repeat apply Exists.intro); refine ⟨R, ?_⟩; and_intros <;> rfl)
        · simp [intOf]
          omega
    · have hkl' : ¬ ((k : Int) < (l.length : Int)) := by omega
      have HF := hid (findI_none (l := l) (id := id) fun x hx => by
        obtain ⟨i, hi, rfl⟩ := List.getElem_of_mem hx
        exact HNo.out i (by omega) hi)
      clear hkl
      go_wp2_with fail
      go_ret
      exact ⟨by rw [HF.out]; rfl, B.out⟩
theorem findI_get {l : List JobD} {id : Nat} (h : 0 ≤ findI l id) : ∃ k : Nat, findI l id = (k : Int) ∧ ∃ hk : k < l.length, l[k].id = id ∧ l.find? (fun j => j.id == id) = some l[k] := by
  induction l with
  | nil => exact absurd h (by show ¬ ((0 : Int) ≤ -1); decide)
  | cons x l ih =>
    unfold findI at h ⊢
    by_cases e : x.id = id
    · rw [if_pos e] at h ⊢
      exact ⟨0, rfl, by simp, by simpa using e, by simp [e]⟩
    · rw [if_neg e] at h ⊢
      by_cases e2 : findI l id < 0
      · rw [if_pos e2] at h
        exact absurd h (by decide)
      · rw [if_neg e2] at h ⊢
        obtain ⟨k, h1, hk, h2, h3⟩ := ih (by omega)
        refine ⟨k + 1, by rw [h1]; simp, by simpa using hk, by simpa using h2, ?_⟩
        have : (x.id == id) = false := by rw [beq_eq_false_iff_ne]; exact e
        rw [List.find?_cons, this]
        simpa using h3
theorem findI_neg {l : List JobD} {id : Nat} (h : findI l id < 0) : findI l id = -1 ∧ l.find? (fun j => j.id == id) = none := by
  induction l with
  | nil => exact ⟨rfl, rfl⟩
  | cons x l ih =>
    unfold findI at h ⊢
    by_cases e : x.id = id
    · rw [if_pos e] at h
      exact absurd h (by decide)
    · rw [if_neg e] at h ⊢
      by_cases e2 : findI l id < 0
      · rw [if_pos e2]
        refine ⟨rfl, ?_⟩
        have : (x.id == id) = false := by rw [beq_eq_false_iff_ne]; exact e
        rw [List.find?_cons, this]
        exact (ih e2).2
      · rw [if_neg e2] at h
        omega
end Go.Proofs.YtombndhjoaaaiaaDoor

/- The walks of layer 16: the document's Job; asked: that the table is whole. -/
namespace Go.Proofs.YtombndhjoaaaiaaDoor
open Go.RowKit Go.Quad _root_.Quad _root_.Quad.Ink

theorem jobT_find (t : TbD) (id : Nat) : jobT t id = (t.active.find? (fun j => j.id == id)).orElse fun _ => t.over.find? (fun j => j.id == id) := rfl

set_option maxRecDepth 100000 in
set_option maxHeartbeats 8000000 in
theorem rjob_calls (w : World) (B X : Nat) (av ov : Value) (t : TbD) (id : Nat) (h : IsX w B X av ov t) (hI : id < 4294967296) :
    Calls Tryd.prog 52 #[.pointer (some ⟨X, 0, none⟩), .int .u32 (id : Int)] w fun e w' => e = .returned (jobRes (jobT t id)) ∧ Below w.heap.size w w' := by
  obtain ⟨z, hz⟩ : ∃ z, w.heap.size = z := ⟨_, rfl⟩
  have K0 := hid (show Blk (w.alloc (.cells zjob 37)) z (jobV jobZ) 37 from by rw [← hz]; exact blk_alloc w (jobV jobZ) 37)
  have B0 := hid (below_alloc w (.cells zjob 37))
  have Z0 := hid (show w.heap.size ≤ z from Nat.le_of_eq hz)
  have H0 := hid (h.below B0.out)
  have few := hid h.ok.few
  obtain ⟨aa, na, ca, rfl, hna, _, hcsa⟩ := h.act.cs
  subst hna
  obtain ⟨ao, no, co, rfl, hno, _, hcso⟩ := h.over.cs
  subst hno
  have fa : (t.active.length : Int) ≤ 64 := by have := few.out.1; omega
  have fo : (t.over.length : Int) ≤ 64 := by have := few.out.2; omega
  have HCa := hid (hcsa.chg (Chg.of_below [] B0.out) (by simp))
  have HCo := hid (hcso.chg (Chg.of_below [] B0.out) (by simp))
  have HZ := hid hz
  clear h hz hcsa hcso
  go_enter Tryd.func52, Tryd.ntmps52
  go_upto_region 1 with (refine wpListQ_alloc (o := ⟨some 4, _, _, _, _, _⟩) 37 rfl rfl zjob 6 info_job ?_)
  rw [HZ.out]
  generalize (w.alloc (.cells zjob 37)) = w0 at K0 B0 H0 HCa HCo ⊢
  have c2 := H0.out.own.get 2 rfl
  have HF := hid (rfind_calls w0 aa ca t.active id HCa.out few.out.1 hI)
  go_upto_region 4 with (go_at_call 70; go_loud (refine HF.out.mono ?_; rintro e w1 ⟨rfl, hb⟩; have B1 := hid hb; clear hb))
  clear HF c2
  have H1 := hid (H0.out.below B1.out)
  have K1 := hid (K0.out.below B1.out)
  have BW := hid (B0.out.trans (B1.out.mono B0.out.size))
  by_cases hp : 0 ≤ findI t.active id
  · obtain ⟨k, hk1, hk2, hk3, hf⟩ := findI_get hp
    obtain ⟨j, hj⟩ : ∃ j, t.active[k] = j := ⟨_, rfl⟩
    rw [hj] at hf
    obtain ⟨b1, o1, rfl, hc1⟩ := cs_row jobV_length (HCa.out.chg (Chg.of_below [] B1.out) (by simp)) hk2 (by decide)
    rw [hj] at hc1
    have HR := hid (show w1.rangeAt b1 (o1 + k * 6) (jobV j) from hc1)
    have EJ := hid (show jobT t id = some j from by rw [jobT_find, hf]; rfl)
    have c2 : w1.cell? ⟨X, 2, none⟩ = some (.slice (some ⟨b1, o1, none⟩) t.active.length ca) := H1.out.own.get 2 rfl
    have hkI : (k : Int) < (t.active.length : Int) := by omega
    rw [hk1]
    clear hp hc1 hf hk3 hj hk1 hk2
    go_upto_region 5 with fail
    repeat (first | (refine wpList_load_row6 (o := ⟨some 25, _, _, _, _, _⟩) 37 (.tmp 24) rfl rfl b1 (o1 + k * 6) (jobV j) rfl HR.out row_job size_job ?_) | (refine wpList_store_blk (o := ⟨none, _, 0, _, _, _⟩) 37 (.tmp 4) (.tmp 25) rfl rfl z (jobV jobZ) (jobV j) 37 rfl rfl K1.out rfl size_job (jobV_one _) ?_; intro w9 hZ9 hC9) | go_step)
    refine bodyPost_ret (v := .tuple #[.agg (jobV j).toArray, .bool true]) (results_blk2 (fn := Tryd.f52) (p := 4) (q := 5) (ty := 37) rfl _ z (jobV j) 37 (.bool true) rfl rfl hZ9 row_job size_job) rfl ?_
    rw [EJ.out]
    exact ⟨rfl, blk_below_set BW.out hC9 Z0.out⟩
  · obtain ⟨hm, hf0⟩ := findI_neg (l := t.active) (id := id) (by omega)
    rw [hm]
    have HF0 := hid hf0
    clear hp hm hf0
    have c3 := H1.out.own.get 3 rfl
    have HF := hid (rfind_calls w1 ao co t.over id (HCo.out.chg (Chg.of_below [] B1.out) (by simp)) few.out.2 hI)
    go_upto_region 7 with (go_at_call 70; go_loud (refine HF.out.mono ?_; rintro e w2 ⟨rfl, hb⟩; have B2 := hid hb; clear hb))
    clear HF c3
    have H2 := hid (H1.out.below B2.out)
    have K2 := hid (K1.out.below B2.out)
    have BW2 := hid (BW.out.trans (B2.out.mono BW.out.size))
    by_cases hp : 0 ≤ findI t.over id
    · obtain ⟨k, hk1, hk2, hk3, hf⟩ := findI_get hp
      obtain ⟨j, hj⟩ : ∃ j, t.over[k] = j := ⟨_, rfl⟩
      rw [hj] at hf
      obtain ⟨b1, o1, rfl, hc1⟩ := cs_row jobV_length ((HCo.out.chg (Chg.of_below [] B1.out) (by simp)).chg (Chg.of_below [] B2.out) (by simp)) hk2 (by decide)
      rw [hj] at hc1
      have HR := hid (show w2.rangeAt b1 (o1 + k * 6) (jobV j) from hc1)
      have EJ := hid (show jobT t id = some j from by rw [jobT_find, HF0.out, hf]; rfl)
      have c3 : w2.cell? ⟨X, 3, none⟩ = some (.slice (some ⟨b1, o1, none⟩) t.over.length co) := H2.out.own.get 3 rfl
      have hkI : (k : Int) < (t.over.length : Int) := by omega
      rw [hk1]
      clear hp hc1 hf hk3 hj hk1 hk2
      go_upto_region 8 with fail
      repeat (first | (refine wpList_load_row6 (o := ⟨some 40, _, _, _, _, _⟩) 37 (.tmp 39) rfl rfl b1 (o1 + k * 6) (jobV j) rfl HR.out row_job size_job ?_) | (refine wpList_store_blk (o := ⟨none, _, 0, _, _, _⟩) 37 (.tmp 4) (.tmp 40) rfl rfl z (jobV jobZ) (jobV j) 37 rfl rfl K2.out rfl size_job (jobV_one _) ?_; intro w9 hZ9 hC9) | go_step)
      refine bodyPost_ret (v := .tuple #[.agg (jobV j).toArray, .bool true]) (results_blk2 (fn := Tryd.f52) (p := 4) (q := 5) (ty := 37) rfl _ z (jobV j) 37 (.bool true) rfl rfl hZ9 row_job size_job) rfl ?_
      rw [EJ.out]
      exact ⟨rfl, blk_below_set BW2.out hC9 Z0.out⟩
    · obtain ⟨hm, hf1⟩ := findI_neg (l := t.over) (id := id) (by omega)
      rw [hm]
      have EJ := hid (show jobT t id = none from by rw [jobT_find, HF0.out, hf1]; rfl)
      clear hp hm hf1
      go_upto_region 9 with fail
      repeat (first | (refine wpList_store_blk (o := ⟨none, _, 0, _, _, _⟩) 37 (.tmp 4) (.tmp 41) rfl rfl z (jobV jobZ) (jobV jobZ) 37 rfl rfl K2.out rfl size_job (jobV_one _) ?_; intro w9 hZ9 hC9) | go_step)
      refine bodyPost_ret (v := .tuple #[.agg (jobV jobZ).toArray, .bool false]) (results_blk2 (fn := Tryd.f52) (p := 4) (q := 5) (ty := 37) rfl _ z (jobV jobZ) 37 (.bool false) rfl rfl hZ9 row_job size_job) rfl ?_
      rw [EJ.out]
      exact ⟨rfl, blk_below_set BW2.out hC9 Z0.out⟩
end Go.Proofs.YtombndhjoaaaiaaDoor

/- The walks of layer 16: the document's get; asked: that the table is whole. -/
namespace Go.Proofs.YtombndhjoaaaiaaDoor
open Go.RowKit Go.Quad _root_.Quad _root_.Quad.Ink

def getI (t : TbD) (id : Nat) : Int × Int :=
  match jobT t id with
  | none => (0, 6)
  | some _ => if findI t.active id < 0 then (0, 10) else (findI t.active id, 0)
theorem getI_getT {t : TbD} (ht : t.Ok) (id : Nat) : (getI t id).2 = (getT t id).2 ∧ ((getT t id).2 = 0 → ∃ k : Nat, (getI t id).1 = (k : Int) ∧ ∃ hk : k < t.active.length, t.active[k] = (getT t id).1) := by
  unfold getI getT
  by_cases hp : findI t.active id < 0
  · obtain ⟨_, hf⟩ := findI_neg hp
    rw [jobT_find, hf]
    cases ho : t.over.find? (fun j => j.id == id) with
    | none => exact ⟨rfl, fun h => absurd h (by show ¬ ((6 : Int) = 0); decide)⟩
    | some j =>
      have hs := ht.ost j (find_id ho).1
      have h4 : 4 ≤ j.state := by omega
      show (if findI t.active id < 0 then ((0 : Int), (10 : Int)) else (findI t.active id, 0)).2 = (if 4 ≤ j.state then (j, (10 : Int)) else (j, 0)).2 ∧ ((if 4 ≤ j.state then (j, (10 : Int)) else (j, 0)).2 = 0 → _)
      rw [if_pos hp, if_pos h4]
      exact ⟨rfl, fun h => absurd h (by show ¬ ((10 : Int) = 0); decide)⟩
  · obtain ⟨k, h1, hk, h2, hf⟩ := findI_get (l := t.active) (id := id) (by omega)
    rw [jobT_find, hf]
    have hs := ht.st t.active[k] (List.getElem_mem hk)
    show (if findI t.active id < 0 then ((0 : Int), (10 : Int)) else (findI t.active id, 0)).2 = (if 4 ≤ t.active[k].state then (t.active[k], (10 : Int)) else (t.active[k], 0)).2 ∧ ((if 4 ≤ t.active[k].state then (t.active[k], (10 : Int)) else (t.active[k], 0)).2 = 0 → ∃ k' : Nat, (if findI t.active id < 0 then ((0 : Int), (10 : Int)) else (findI t.active id, 0)).1 = (k' : Int) ∧ ∃ hk' : k' < t.active.length, t.active[k'] = (if 4 ≤ t.active[k].state then (t.active[k], (10 : Int)) else (t.active[k], 0)).1)
    rw [if_neg hp, if_neg (by omega)]
    exact ⟨rfl, fun _ => ⟨k, h1, hk, rfl⟩⟩

set_option maxRecDepth 100000 in
set_option maxHeartbeats 8000000 in
theorem rget_calls (w : World) (B X : Nat) (av ov : Value) (t : TbD) (id : Nat) (h : IsX w B X av ov t) (hI : id < 4294967296) :
    Calls Tryd.prog 53 #[.pointer (some ⟨X, 0, none⟩), .int .u32 (id : Int)] w fun e w' => e = .returned (.tuple #[.int .i64 (getI t id).1, .int .i64 (getI t id).2]) ∧ Below w.heap.size w w' := by
  have H := hid h
  have HJ := hid (rjob_calls w B X av ov t id h hI)
  have few := hid h.ok.few
  obtain ⟨aa, na, ca, rfl, hna, _, hcsa⟩ := h.act.cs
  subst hna
  have HCa := hid hcsa
  clear h hcsa
  obtain ⟨o, ho⟩ : ∃ o, jobT t id = o := ⟨_, rfl⟩
  rw [ho] at HJ
  have HO := hid ho
  clear ho
  go_enter Tryd.func53, Tryd.ntmps53
  cases o with
  | none =>
    have HG := hid (show getI t id = (0, 6) from by unfold getI; rw [HO.out])
    go_wp2_with (first | (go_at_call 52; go_loud (refine HJ.out.mono ?_; rintro e w2 ⟨rfl, hb2⟩; have B2 := hid hb2; clear hb2; simp only [jobRes, Option.getD_none, Option.isSome_none])) | (refine wpListQ_alloc (o := ⟨some 6, _, _, _, _, _⟩) 37 rfl rfl zjob 6 info_job ?_) | (refine wpListQ_store_new (o := ⟨none, _, 0, _, _, _⟩) rfl 37 (.tmp 6) (.tmp 13) rfl zjob (jobV jobZ).toArray rfl rfl size_job rfl (all_oneCell_toArray (jobV_one _)) ?_))
    go_ret2
    exact ⟨by rw [HG.out]; rfl, B2.out.trans ((below_alloc w2 _).mono B2.out.size)⟩
  | some j =>
    go_upto_region 2 with (first | (go_at_call 52; go_loud (refine HJ.out.mono ?_; rintro e w2 ⟨rfl, hb2⟩; have B2 := hid hb2; clear hb2; simp only [jobRes, Option.getD_some, Option.isSome_some])) | (refine wpListQ_alloc (o := ⟨some 6, _, _, _, _, _⟩) 37 rfl rfl zjob 6 info_job ?_) | (refine wpListQ_store_new (o := ⟨none, _, 0, _, _, _⟩) rfl 37 (.tmp 6) (.tmp 13) rfl zjob (jobV j).toArray rfl rfl size_job rfl (all_oneCell_toArray (jobV_one _)) ?_))
    have B3 := hid (B2.out.trans ((below_alloc w2 (.cells (jobV j).toArray 37)).mono B2.out.size))
    generalize (w2.alloc (.cells (jobV j).toArray 37)) = w3 at B3 ⊢
    have H3 := hid (H.out.below B3.out)
    have c2 := H3.out.own.get 2 rfl
    have HF := hid (rfind_calls w3 aa ca t.active id (HCa.out.chg (Chg.of_below [] B3.out) (by simp)) few.out.1 hI)
    clear HJ B2
    by_cases hp : findI t.active id < 0
    · have HG := hid (show getI t id = (0, 10) from by unfold getI; rw [HO.out]; show (if findI t.active id < 0 then ((0 : Int), (10 : Int)) else _) = _; rw [if_pos hp])
      have hm := (findI_neg hp).1
      rw [hm] at HF
      clear hp hm
      go_wp2_with (go_at_call 70; go_loud (refine HF.out.mono ?_; rintro e w4 ⟨rfl, hb⟩; have B4 := hid hb; clear hb))
      go_ret2
      exact ⟨by rw [HG.out]; rfl, B3.out.trans (B4.out.mono B3.out.size)⟩
    · have HG := hid (show getI t id = (findI t.active id, 0) from by unfold getI; rw [HO.out]; show (if findI t.active id < 0 then ((0 : Int), (10 : Int)) else _) = _; rw [if_neg hp])
      go_wp2_with (go_at_call 70; go_loud (refine HF.out.mono ?_; rintro e w4 ⟨rfl, hb⟩; have B4 := hid hb; clear hb))
      go_ret2
      exact ⟨by rw [HG.out]; rfl, B3.out.trans (B4.out.mono B3.out.size)⟩
end Go.Proofs.YtombndhjoaaaiaaDoor

/- The walks of layer 16: the document's New; asked: that the number is an int. -/
namespace Go.Proofs.YtombndhjoaaaiaaDoor
open Go.RowKit Go.Quad _root_.Quad _root_.Quad.Ink

def RNewTo (w : World) (n : Int) (e : Ending) (w' : World) : Prop :=
  if 1 ≤ n ∧ n ≤ 16 then ∃ X, e = .returned (.tuple #[.pointer (some ⟨X, 0, none⟩), .int .i64 0]) ∧ IsX w' w.heap.size X (.slice none 0 0) (.slice none 0 0) (newT n) ∧ Below w.heap.size w w'
  else e = .returned (.tuple #[.pointer none, .int .i64 1]) ∧ w = w'
set_option maxRecDepth 100000 in
set_option maxHeartbeats 2000000 in
theorem rnew_calls (w : World) (n : Int) (hn : -9223372036854775808 ≤ n ∧ n ≤ 9223372036854775807) : Calls Tryd.prog 23 #[.int .i64 n] w (RNewTo w n) := by
  by_cases h1 : n < 1
  · rw [show RNewTo w n = fun e w' => e = .returned (.tuple #[.pointer none, .int .i64 1]) ∧ w = w' from by funext e w'; unfold RNewTo; rw [if_neg (by omega)]]
    go_enter Tryd.func23, Tryd.ntmps23
    go_wp2_with fail
    go_ret2
    exact ⟨rfl, rfl⟩
  by_cases h2 : 16 < n
  · rw [show RNewTo w n = fun e w' => e = .returned (.tuple #[.pointer none, .int .i64 1]) ∧ w = w' from by funext e w'; unfold RNewTo; rw [if_neg (by omega)]]
    go_enter Tryd.func23, Tryd.ntmps23
    go_wp2_with fail
    go_ret2
    exact ⟨rfl, rfl⟩
  rw [show RNewTo w n = fun e w' => ∃ X, e = .returned (.tuple #[.pointer (some ⟨X, 0, none⟩), .int .i64 0]) ∧ IsX w' w.heap.size X (.slice none 0 0) (.slice none 0 0) (newT n) ∧ Below w.heap.size w w' from by funext e w'; unfold RNewTo; rw [if_pos (by omega)]]
  go_enter Tryd.func23, Tryd.ntmps23
  go_wp2_with fail
  go_ret2
  exact ⟨w.heap.size, rfl, ⟨blk_alloc w (xV (newT n) (.slice none 0 0) (.slice none 0 0)) 100, JR.nil _ _, JR.nil _ _, Nat.le_refl _, newT_ok (by omega)⟩, below_alloc w _⟩
/-- what a call that changes the document's table ensures -/
def XTo (w : World) (B X : Nat) (av ov : Value) (t' : TbD) (r : Value) (e : Ending) (w' : World) : Prop :=
  e = .returned r ∧ ∃ av' ov', IsX w' B X av' ov' t' ∧ Chg (xS X av ov) w w' ∧ ∀ k ∈ xS X av' ov', k ∈ xS X av ov ∨ w.heap.size ≤ k
theorem XTo.same {w w' : World} {B X : Nat} {av ov : Value} {t : TbD} {r : Value} (h : IsX w B X av ov t) (hb : Below w.heap.size w w') : XTo w B X av ov t r (.returned r) w' :=
  ⟨rfl, av, ov, h.below hb, Chg.of_below _ hb, fun k hk => .inl hk⟩
end Go.Proofs.YtombndhjoaaaiaaDoor

/- Laws on rows of jobs that are made anew within drawn statements. -/
namespace Go.Proofs.YtombndhjoaaaiaaDoor
open Go.RowKit Go.Quad _root_.Quad _root_.Quad.Ink

theorem run_jobs_at (w : World) (g i : Nat) (v : Value) (h : w.cell? ⟨g, i, none⟩ = some v) : (Instr.loadAt 43 (.pointer (some ⟨g, i, none⟩))).run Tryd.prog w = .ok v w := by go_simp
theorem run_jobs_store (w : World) (g i : Nat) (old : Value) (a : Option Addr) (n c : Nat) (h : w.cell? ⟨g, i, none⟩ = some old) (hf : w.frozen? ⟨g, i, none⟩ = false) :
    (Instr.storeAt 43 (.pointer (some ⟨g, i, none⟩)) (.slice a n c)).run Tryd.prog w = .ok () (w.setCell ⟨g, i, none⟩ (.slice a n c)) := by go_simp
theorem opOk_appendJs {o : Oper} {ρ : Operand → Value} {w : World} {K : Value → World → Prop} (s x : Operand) (ho : o.op = .call { callee := .builtin .append, args := #[s, x], argTypes := #[43, 43] })
    (base : Nat) (v : Value) (l : List JobD) (hown : RO jobV 6 w base 37 v l) (hs : ρ s = v) {a : Option Addr} {n c : Nat} {l' : List JobD} (hc : CS w a c 6 (l'.flatMap jobV)) (hn : l'.length = n) (hnc : n ≤ c) (hx : ρ x = .slice a n c)
    (hsm : l.length + l'.length ≤ 1000) (hbase : base ≤ w.heap.size)
    (hK : ∀ v' w', RO jobV 6 w' base 37 v' (l ++ l') → Below base w w' → K v' w') : OpOk Tryd.prog o ρ w K := by
  subst hn
  obtain ⟨i, hi, hz0, hz1, hz2⟩ := info_parts info_jobs
  obtain ⟨v', w', hr, h2, h3, _⟩ := run_append_cs (P := Tryd.prog) (w := w) base 43 o.type 37 i _ 6 40 under_jobs hi hz0 hz1 hz2 rfl (by decide) v l.length _ hown (a := a) (c := c) (m := l'.length) (news := l'.flatMap jobV) (flat6 l') hc hnc (fun u hu => by obtain ⟨j, _, hj⟩ := List.mem_flatMap.1 hu; exact jobV_one j u hj) (by unfold maxLen; omega) (by omega) hbase
  refine opOk_run (v := v') (w' := w') ?_ (hK v' w' (by unfold RO; rw [List.length_append, List.flatMap_append]; exact h2) (grownBy_below h3 hbase (fun k hk => (hown.ownBlock k hk).1)))
  simp only [execOp, ho, resolve, invoke, builtin, Sem.run_bind, Sem.run_pure, Result.andThen_ok, List.map_toArray, List.map_cons, List.map_nil, hs, hx, hr]
/-- '[]api.Job{}' -/
theorem opOk_lit0J {o : Oper} {ρ : Operand → Value} {w : World} {K : Value → World → Prop} (ho : o.op = .buildSlice 43 0 #[])
    (hk : Blk (w.alloc (.cells #[] 37)) w.heap.size [] 37 → K (.slice (some ⟨w.heap.size, 0, none⟩) 0 0) (w.alloc (.cells #[] 37))) : OpOk Tryd.prog o ρ w K := by
  obtain ⟨i, hi, hz0, hz1, hz2⟩ := info_parts info_jobs
  refine opOk_run (v := .slice (some ⟨w.heap.size, 0, none⟩) 0 0) (w' := w.alloc (.cells #[] 37)) ?_ (hk (blk_alloc w [] 37))
  simp [execOp, ho, Instr.buildSlice, run_underlying under_jobs, sizeOf, typeInfo, hi, Instr.fill, newRow]
  rw [show (Array.range 0) = #[] from Array.eq_empty_of_size_eq_zero (by simp), Array.map_empty]
/-- append onto '[]api.Job{}': nothing that was there changes -/
theorem opOk_append_lit0J {o : Oper} {ρ : Operand → Value} {w : World} {K : Value → World → Prop} (s x : Operand) (ho : o.op = .call { callee := .builtin .append, args := #[s, x], argTypes := #[43, 43] })
    (b : Nat) (hs : ρ s = .slice (some ⟨b, 0, none⟩) 0 0) (hB : Blk w b [] 37)
    {a : Option Addr} {n c : Nat} {l : List JobD} (hc : CS w a c 6 (l.flatMap jobV)) (hn : l.length = n) (hnc : n ≤ c) (hx : ρ x = .slice a n c) (hsm : l.length ≤ 1000) (base : Nat) (hbase : base ≤ b)
    (hK : ∀ v' w', RO jobV 6 w' base 37 v' l → Below w.heap.size w w' → K v' w') : OpOk Tryd.prog o ρ w K := by
  subst hn
  obtain ⟨i, hi, hz0, hz1, hz2⟩ := info_parts info_jobs
  have hbl := hB.lt
  have key : ∃ v' w', (Builtin.append_ #[43, 43] o.type #[.slice (some ⟨b, 0, none⟩) 0 0, .slice a l.length c]).run Tryd.prog w = .ok v' w' ∧ RO jobV 6 w' base 37 v' l ∧ Below w.heap.size w w' := by
    have hown : RO jobV 6 w base 37 (.slice (some ⟨b, 0, none⟩) 0 0) [] := ⟨by simp, .inr ⟨b, 0, #[], rfl, hbase, hB, Nat.le_refl _, by simp [maxLen], by simp, by simp⟩⟩
    by_cases hl : l = []
    · subst hl
      refine ⟨.slice (some ⟨b, 0, none⟩) 0 0, w, ?_, hown, Below.refl _ _⟩
      cases a with
      | none => exact run_append_owned_none (P := Tryd.prog) w base 43 o.type 37 i 6 under_jobs hi _ _ _ hown |>.trans rfl
      | some y =>
        have hf := run_firstCells_some (P := Tryd.prog) w i.size 0 y 0 c [] (by simp) (by simp)
        simp [Builtin.append_, run_underlying under_jobs, sizeOf, typeInfo, hi, Builtin.lenOf, hf, storeCells]
    · have hpos : 0 < l.length := List.length_pos_iff.2 hl
      obtain ⟨b', off, rfl, hh⟩ := CS.at hc (by rw [flat6]; omega)
      have hr := run_append_grow (P := Tryd.prog) w 43 o.type 37 i _ under_jobs hi hz0 ⟨b, 0, none⟩ 0 0 [] (by simp) (by simp) ⟨b', off, none⟩ l.length c (l.flatMap jobV) (by rw [flat6, hz1]) (fun j u hu => by rw [Addr.add_mid]; exact hh j u hu) (by omega) (by omega) (growslice_fits (by omega) (by rw [hz2]; omega))
      rw [Nat.zero_add] at hr
      refine ⟨_, _, hr, ?_, ?_⟩
      · have hge := grownCap_ge w l.length 0 37
        refine ⟨by rw [flat6], .inr ⟨w.heap.size, _, _, rfl, by omega, heap_alloc_new w.drew _, by omega, grownCap_le_maxLen w l.length 0 37 (by unfold maxLen; omega), ?_, ?_⟩⟩
        · simp only [Array.size_append, List.size_toArray, size_zeroCells, flat6, Value.cells, List.length_nil]
          simp
          omega
        · have e6 := flat6 l
          have e7 := e6
          rw [List.length_flatMap] at e7
          simp [List.take_append, e7]
      · exact ((Below.refl _ _).drew).alloc (by simp) _
  obtain ⟨v', w', hr, h1, h2⟩ := key
  refine opOk_run (v := v') (w' := w') ?_ (hK v' w' h1 h2)
  simp only [execOp, ho, resolve, invoke, builtin, Sem.run_bind, Sem.run_pure, Result.andThen_ok, List.map_toArray, List.map_cons, List.map_nil, hs, hx, hr]
/-- '[]api.Job{j}' -/
theorem opOk_one1J {o : Oper} {ρ : Operand → Value} {w : World} {K : Value → World → Prop} (x : Operand) (ho : o.op = .buildSlice 43 1 #[(0, x)]) (j : JobD) (hx : ρ x = .agg (jobV j).toArray)
    (hk : CS (w.alloc (.cells (jobV j).toArray 37)) (some ⟨w.heap.size, 0, none⟩) 1 6 ([j].flatMap jobV) → K (.slice (some ⟨w.heap.size, 0, none⟩) 1 1) (w.alloc (.cells (jobV j).toArray 37))) : OpOk Tryd.prog o ρ w K := by
  refine opOk_run (v := .slice (some ⟨w.heap.size, 0, none⟩) 1 1) (w' := w.alloc (.cells (jobV j).toArray 37)) ?_ (hk (by rw [flat1]; exact cs_lit w (jobV j) _ 1 6 rfl (by simp [maxLen])))
  simp only [execOp, ho, List.map_toArray, List.map_cons, List.map_nil, hx, Sem.run_bind, run_buildOne w 43 37 (jobV j).toArray zjob 6 under_jobs info_job ⟨by decide, by decide⟩ (by simp [jobV_length]), Result.andThen_ok, Sem.run_pure]
theorem IsX.ne {w : World} {B X : Nat} {av ov : Value} {t : TbD} (h : IsX w B X av ov t) : av.ownBlock ≠ some X ∧ ov.ownBlock ≠ some X := by
  have hT : w.heap[X]? = _ := h.own
  exact ⟨fun e => by obtain ⟨_, _, cur, hc⟩ := h.act.own e; exact kind_ne hc hT (by decide) rfl, fun e => by obtain ⟨_, _, cur, hc⟩ := h.over.own e; exact kind_ne hc hT (by decide) rfl⟩
theorem flat_take (l : List JobD) : ∀ i, (l.flatMap jobV).take (i * 6) = (l.take i).flatMap jobV := by
  induction l with
  | nil => simp
  | cons x l ih =>
    intro i
    cases i with
    | zero => simp
    | succ i => rw [List.flatMap_cons, List.take_append, jobV_length, List.take_of_length_le (by rw [jobV_length]; omega), show (i + 1) * 6 - 6 = i * 6 from by omega, ih, List.take_succ_cons, List.flatMap_cons]
theorem flat_drop (l : List JobD) : ∀ i, (l.flatMap jobV).drop (i * 6) = (l.drop i).flatMap jobV := by
  induction l with
  | nil => simp
  | cons x l ih =>
    intro i
    cases i with
    | zero => simp
    | succ i => rw [List.flatMap_cons, List.drop_append, jobV_length, List.drop_of_length_le (by rw [jobV_length]; omega), show (i + 1) * 6 - 6 = i * 6 from by omega, ih, List.nil_append, List.drop_succ_cons]
/-- 'l[i:j]' of jobs that are known at another world -/
theorem opOk_cutJ {o : Oper} {ρ : Operand → Value} {w W : World} {K : Value → World → Prop} (x : Operand) (lo hi' : Option Operand) (ho : o.op = Op.slice 43 x lo hi' none)
    {a : Option Addr} {n cap : Nat} {l : List JobD} (hx : ρ x = .slice a n cap) (h : CS W a cap 6 (l.flatMap jobV)) (hl : l.length = n) (hnc : n ≤ cap) (i j : Nat)
    (hlo : lo.map ρ = some (.int .i64 (i : Int)) ∨ (lo = none ∧ i = 0)) (hhi : hi'.map ρ = some (.int .i64 (j : Int)) ∨ (hi' = none ∧ j = n)) (hij : i ≤ j) (hj : j ≤ n)
    (hK : ∀ a', CS W a' (cap - i) 6 (((l.drop i).take (j - i)).flatMap jobV) → K (.slice a' (j - i) (cap - i)) w) : OpOk Tryd.prog o ρ w K := by
  obtain ⟨info, h1, _, h3, _⟩ := info_parts info_jobs
  have hr := run_slice_cut0 (P := Tryd.prog) (w := w) 43 37 info 6 under_jobs h1 h3 (a := a) (n := n) (cap := cap) (lo.map ρ) (hi'.map ρ) i j
    (hlo.imp id fun ⟨h1, h2⟩ => ⟨by rw [h1]; rfl, h2⟩) (hhi.imp id fun ⟨h1, h2⟩ => ⟨by rw [h1]; rfl, h2⟩) hij (by omega)
  have hc := CS.cut h i (by omega) (by decide)
  rw [flat_drop] at hc
  have hc := hc.take ((j - i) * 6)
  rw [flat_take] at hc
  refine opOk_run (v := .slice (if cap = i then a else a.map (·.add (i * 6))) (j - i) (cap - i)) (w' := w) ?_ (hK _ hc)
  simp only [execOp, ho, hx, Sem.run_bind, Result.andThen, Sem.run_pure]
  simp [hr, Instr.sliceAt, run_underlying under_jobs, Result.andThen]
theorem RO.jr {w : World} {B base : Nat} {v : Value} {l : List JobD} (h : RO jobV 6 w base 37 v l) (hb : B ≤ base) : JR w B v l := by
  rcases h with ⟨h0, ⟨rfl, hn⟩ | ⟨g, cap, cur, rfl, hg, hw, h1, h2, h3, h4⟩⟩
  · exact .inl ⟨rfl, List.length_eq_zero_iff.1 hn⟩
  · refine .inr ⟨g, 0, cap, cur.toList, rfl, by omega, hw, h1, h2, by rw [Array.length_toList, h3]; omega, fun i u hu => ?_⟩
    rw [← h4, List.getElem?_take] at hu
    split at hu
    · rw [Nat.zero_add]; exact hu
    · cases hu
theorem JR.base {w : World} {B B' : Nat} {v : Value} {l : List JobD} (h : JR w B v l) (hb : B' ≤ B) : JR w B' v l := by
  rcases h with h | ⟨g, off, cap, cur, rfl, hB, h1⟩
  · exact .inl h
  · exact .inr ⟨g, off, cap, cur, rfl, Nat.le_trans hb hB, h1⟩
theorem ro_slice {w : World} {base : Nat} {v : Value} {l : List JobD} (h : RO jobV 6 w base 37 v l) : ∃ a c, v = .slice a l.length c := row_slice h
theorem filter_cut : ∀ {l : List JobD} {k : Nat} (hk : k < l.length), l.Pairwise (fun a b => a.id < b.id) → l.take k ++ l.drop (k + 1) = l.filter (fun x => x.id != l[k].id)
  | [], _, hk, _ => absurd hk (by simp)
  | x :: l, 0, _, hp => by
    rw [List.pairwise_cons] at hp
    have : ∀ y ∈ l, (y.id != x.id) = true := fun y hy => by have := hp.1 y hy; simp; omega
    simp only [List.take_zero, List.nil_append, List.drop_succ_cons, List.drop_zero, List.getElem_cons_zero, List.filter_cons]
    rw [List.filter_eq_self.2 this]
    simp
  | x :: l, k + 1, hk, hp => by
    rw [List.pairwise_cons] at hp
    have hk' : k < l.length := by simpa using hk
    have e := filter_cut hk' hp.2
    have hx : (x.id != l[k].id) = true := by have := hp.1 l[k] (List.getElem_mem hk'); simp; omega
    simp only [List.take_succ_cons, List.cons_append, List.drop_succ_cons, List.getElem_cons_succ, List.filter_cons, hx, if_true]
    rw [e]
end Go.Proofs.YtombndhjoaaaiaaDoor

/- The walks of layer 16: the document's end; asked: that the table is whole. -/
namespace Go.Proofs.YtombndhjoaaaiaaDoor
open Go.RowKit Go.Quad _root_.Quad _root_.Quad.Ink

set_option maxRecDepth 100000 in
set_option maxHeartbeats 20000000 in
theorem rend_calls (w : World) (B X : Nat) (av ov : Value) (t : TbD) (k : Nat) (j : JobD) (st : Nat) (cr : Int) (h : IsX w B X av ov t) (hk : k < t.active.length) (hj : t.active[k] = j) (hcr : 0 ≤ cr ∧ cr ≤ j.w) (hs : st = 4 ∨ st = 5) :
    Calls Tryd.prog 54 #[.pointer (some ⟨X, 0, none⟩), .int .i64 (k : Int), .int .u8 (st : Int), .int .i64 cr] w (XTo w B X av ov (endT t { j with credit := cr } st) (.tuple #[])) := by
  obtain ⟨z, hz⟩ : ∃ z, w.heap.size = z := ⟨_, rfl⟩
  have hm : j ∈ t.active := by rw [← hj]; exact List.getElem_mem hk
  have HOK := hid (endT_ok (j := { j with credit := cr }) h.ok (h.ok.ids j hm) (by have := h.ok.rng j (.inl hm); dsimp only; omega) hs)
  have HFI := hid (show t.active.take k ++ t.active.drop (k + 1) = (endT t { j with credit := cr } st).active from by rw [filter_cut hk h.ok.rise, hj]; rfl)
  have HF := hid h.ok.few
  have HH := hid h
  obtain ⟨aa, na, ca, rfl, hna, hnc, hcsa⟩ := h.act.cs
  subst hna
  have HN := hid hnc
  have HK := hid hk
  have Zs := hid hz
  obtain ⟨b1, o1, rfl, hc1⟩ := cs_row jobV_length hcsa hk (by decide)
  rw [hj] at hc1
  have HR := hid (show w.rangeAt b1 (o1 + k * 6) (jobV j) from hc1)
  have kl : (k : Int) < (t.active.length : Int) := by omega
  have c2 : w.cell? ⟨X, 2, none⟩ = some (.slice (some ⟨b1, o1, none⟩) t.active.length ca) := h.own.get 2 rfl
  have HX1 := hid h.own
  have HC1 := hid hcsa
  clear h hk hj hcsa hnc hc1 hm
  go_enter Tryd.func54, Tryd.ntmps54
  go_upto_region 1 with (first | (refine wpList_load_row6 (o := ⟨some 15, _, _, _, _, _⟩) 37 (.tmp 14) rfl rfl b1 (o1 + k * 6) (jobV j) rfl HR.out row_job size_job ?_) | (refine wpListQ_alloc (o := ⟨some 8, _, _, _, _, _⟩) 37 rfl rfl zjob 6 info_job ?_) | (refine wpListQ_store_new (o := ⟨none, _, 0, _, _, _⟩) rfl 37 (.tmp 8) (.tmp 15) rfl zjob (jobV j).toArray rfl rfl size_job rfl (all_oneCell_toArray (jobV_one _)) ?_))
  obtain ⟨w1, hw1⟩ : ∃ w1, w.alloc (.cells (jobV j).toArray 37) = w1 := ⟨_, rfl⟩
  have K1 := hid (show Blk w1 z (jobV j) 37 from by rw [← hz, ← hw1]; exact blk_alloc w (jobV j) 37)
  have B1 := hid (show Below w.heap.size w w1 from by rw [← hw1]; exact below_alloc w _)
  rw [hz]
  rw [hw1]
  clear hw1 hz
  have c4 := K1.out.get 4 rfl
  have f4 := K1.out.free 4
  have c5 := K1.out.get 5 rfl
  have f5 := K1.out.free 5
  go_upto_region 2 with fail
  clear c4 f4 c5 f5 c2
  have K2 := hid (show Blk ((w1.setCell ⟨z, 4, none⟩ (.int .u8 (st : Int))).setCell ⟨z, 5, none⟩ (.int .i64 cr)) z (jobV { j with state := st, credit := cr }) 37 from (K1.out.set 4 _).set 5 _)
  have B2 := hid (show Below w.heap.size w ((w1.setCell ⟨z, 4, none⟩ (.int .u8 (st : Int))).setCell ⟨z, 5, none⟩ (.int .i64 cr)) from blk_below_set B1.out ((chg_setCell w1 z 4 _).trans (chg_setCell _ z 5 _)) (by rw [Zs.out]; exact Nat.le_refl _))
  generalize ((w1.setCell ⟨z, 4, none⟩ (.int .u8 (st : Int))).setCell ⟨z, 5, none⟩ (.int .i64 cr)) = w2 at K2 B2 ⊢
  have HX := hid (HX1.out.below B2.out)
  have HC := hid (HC1.out.chg (Chg.of_below [] B2.out) (by simp))
  clear K1 B1
  refine wp_region_new 20 16 [1, 8] (fun idx v w' => match idx with
    | 0 | 2 | 3 | 9 | 10 | 17 => v = .pointer (some ⟨X, 0, none⟩)
    | 4 | 11 | 18 => v = .pointer (some ⟨X, 2, none⟩)
    | 5 | 12 => v = .slice (some ⟨b1, o1, none⟩) t.active.length ca
    | 6 | 13 => v = .int .i64 (k : Int)
    | 14 => v = .int .i64 ((k : Int) + 1)
    | 1 => ∃ b, v = .slice (some ⟨b, 0, none⟩) 0 0 ∧ Blk w' b [] 37 ∧ w2.heap.size ≤ b
    | 7 => ∃ a' c', v = .slice a' k c' ∧ k ≤ c' ∧ CS w2 a' c' 6 ((t.active.take k).flatMap jobV)
    | 15 => ∃ a' c', v = .slice a' (t.active.length - (k + 1)) c' ∧ t.active.length - (k + 1) ≤ c' ∧ CS w2 a' c' 6 ((t.active.drop (k + 1)).flatMap jobV)
    | 8 => RO jobV 6 w' w2.heap.size 37 v (t.active.take k)
    | 16 => RO jobV 6 w' w2.heap.size 37 v (t.active.take k ++ t.active.drop (k + 1))
    | _ => True) (by kernel_rfl) (by kernel_rfl) (by kernel_rfl) (by kernel_rfl) ?_ ?_ ?_ ?_
  · intro j v wx wy hR hb
    match j, hR with
    | 0, hR | 2, hR | 3, hR | 9, hR | 10, hR | 17, hR | 4, hR | 11, hR | 18, hR | 5, hR | 12, hR | 6, hR | 13, hR | 14, hR | 7, hR | 15, hR => exact hR
    | 1, hR => exact (by obtain ⟨b, e, h1, h2⟩ := hR; exact ⟨b, e, h1.below hb, h2⟩)
    | 8, hR => exact RO.below hR hb
    | 16, hR => exact RO.below hR hb
    | _ + 19, _ => trivial
  · intro j v wx wy hne hcon hR hb
    match j, hR with
    | 0, hR | 2, hR | 3, hR | 9, hR | 10, hR | 17, hR | 4, hR | 11, hR | 18, hR | 5, hR | 12, hR | 6, hR | 13, hR | 14, hR | 7, hR | 15, hR => exact hR
    | 1, _ => exact absurd hcon (by decide)
    | 8, _ => exact absurd hcon (by decide)
    | 16, _ => exact (hne rfl).elim
    | _ + 19, _ => trivial
  · refine ⟨?_, ?_, ?_, ?_, ?_, ?_, ?_, ?_, ?_, ?_, ?_, ?_, ?_, ?_, ?_, ?_, ?_, ?_, ?_, trivial⟩
    all_goals intro ρ wx hE hc hg hf
    · intro h0; exact opOk_move _ rfl ⟨Below.refl _ _, h0⟩
    · exact opOk_lit0J rfl fun h => ⟨below_alloc wx _, wx.heap.size, rfl, h, hE.1⟩
    · intro h0; exact opOk_move _ rfl ⟨Below.refl _ _, h0⟩
    · intro (h0 : ρ (.tmp 22) = .pointer (some ⟨X, 0, none⟩))
      exact opOk_run (v := .pointer (some ⟨X, 0, none⟩)) (w' := wx) (by go_simp) ⟨Below.refl _ _, rfl⟩
    · intro (h0 : ρ (.tmp 23) = .pointer (some ⟨X, 0, none⟩))
      exact opOk_run (v := .pointer (some ⟨X, 2, none⟩)) (w' := wx) (by go_simp) ⟨Below.refl _ _, rfl⟩
    · intro (h0 : ρ (.tmp 24) = .pointer (some ⟨X, 2, none⟩))
      have hE0 : Below w2.drew.heap.size w2.drew wx := hE.2 (Nat.le_refl _)
      have c := (HX.out.below ((below_drew _).trans hE0)).get 2 rfl
      exact opOk_load _ _ rfl _ _ h0 (run_jobs_at _ _ _ _ c) ⟨Below.refl _ _, rfl⟩
    · intro h0; exact opOk_move _ rfl ⟨Below.refl _ _, h0⟩
    · intro (h0 : ρ (.tmp 25) = .slice (some ⟨b1, o1, none⟩) t.active.length ca) (h1 : ρ (.tmp 26) = .int .i64 (k : Int))
      refine opOk_cutJ _ _ _ rfl h0 HC.out rfl HN.out 0 k (.inr ⟨rfl, rfl⟩) (.inl (by rw [Option.map_some, h1])) (Nat.zero_le _) (Nat.le_of_lt HK.out) fun a' hc' => ⟨Below.refl _ _, a', _, rfl, by have := HK.out; have := HN.out; omega, ?_⟩
      simpa using hc'
    · intro ⟨b, h0, hB, hb⟩ ⟨a', c', h1, hnc, hs⟩
      have hE0 : Below w2.drew.heap.size w2.drew wx := hE.2 (Nat.le_refl _)
      exact opOk_append_lit0J _ _ rfl b h0 hB (l := t.active.take k) (hs.below ((below_drew w2).trans hE0)) (by rw [List.length_take]; have := HK.out; omega) hnc h1 (by rw [List.length_take]; have := HF.out; omega) w2.heap.size hb fun v' w' h2 h3 => ⟨h3, h2⟩
    · intro h0; exact opOk_move _ rfl ⟨Below.refl _ _, h0⟩
    · intro (h0 : ρ (.tmp 29) = .pointer (some ⟨X, 0, none⟩))
      exact opOk_run (v := .pointer (some ⟨X, 0, none⟩)) (w' := wx) (by go_simp) ⟨Below.refl _ _, rfl⟩
    · intro (h0 : ρ (.tmp 30) = .pointer (some ⟨X, 0, none⟩))
      exact opOk_run (v := .pointer (some ⟨X, 2, none⟩)) (w' := wx) (by go_simp) ⟨Below.refl _ _, rfl⟩
    · intro (h0 : ρ (.tmp 31) = .pointer (some ⟨X, 2, none⟩))
      have hE0 : Below w2.drew.heap.size w2.drew wx := hE.2 (Nat.le_refl _)
      have c := (HX.out.below ((below_drew _).trans hE0)).get 2 rfl
      exact opOk_load _ _ rfl _ _ h0 (run_jobs_at _ _ _ _ c) ⟨Below.refl _ _, rfl⟩
    · intro h0; exact opOk_move _ rfl ⟨Below.refl _ _, h0⟩
    · intro (h0 : ρ (.tmp 33) = .int .i64 (k : Int))
      have hk64 : (k : Int) ≤ 64 := by have := HK.out; have := HF.out; omega
      have e1 : IntKind.i64.wrap ((k : Int) + 1) = (k : Int) + 1 := by rw [IntKind.wrap_i64]; omega
      exact opOk_run (v := .int .i64 ((k : Int) + 1)) (w' := wx) (by go_simp) ⟨Below.refl _ _, rfl⟩
    · intro (h0 : ρ (.tmp 32) = .slice (some ⟨b1, o1, none⟩) t.active.length ca) (h1 : ρ (.tmp 34) = .int .i64 ((k : Int) + 1))
      refine opOk_cutJ _ _ _ rfl h0 HC.out rfl HN.out (k + 1) t.active.length (.inl (by rw [Option.map_some, h1]; rfl)) (.inr ⟨rfl, rfl⟩) HK.out (Nat.le_refl _) fun a' hc' => ⟨Below.refl _ _, a', _, rfl, by have := HK.out; have := HN.out; omega, ?_⟩
      rwa [List.take_of_length_le (by rw [List.length_drop]; omega)] at hc'
    · intro h0 ⟨a', c', h1, hnc, hs⟩
      have hE : Below w2.drew.heap.size w2.drew wx := hE
      exact opOk_appendJs _ _ rfl w2.heap.size _ _ h0 rfl (hs.below ((below_drew w2).trans hE)) (by rw [List.length_drop]) hnc h1 (by rw [List.length_take, List.length_drop]; have := HF.out; omega) hE.size fun v' w' h2 h3 => ⟨⟨h3.size, fun _ => h3⟩, h2⟩
    · intro (h0 : ρ (.tmp 20) = .pointer (some ⟨X, 0, none⟩))
      exact opOk_run (v := .pointer (some ⟨X, 0, none⟩)) (w' := wx) (by go_simp) ⟨Below.refl _ _, rfl⟩
    · intro (h0 : ρ (.tmp 37) = .pointer (some ⟨X, 0, none⟩))
      exact opOk_run (v := .pointer (some ⟨X, 2, none⟩)) (w' := wx) (by go_simp) ⟨Below.refl _ _, rfl⟩
  · intro wz hE
    rintro _ rfl _ _ _ rfl _ rfl _ rfl _ rfl _ rfl _ _ _ _ _ rfl _ rfl _ rfl _ rfl _ rfl _ rfl _ _ v16 h16 _ rfl _ rfl
    simp only [PutLast, Act.put, List.setIfInBounds_toArray, List.set_cons_succ, List.set_cons_zero]
    have hE3 : Below w2.heap.size w2 wz := hE
    rw [HFI.out] at h16
    obtain ⟨a16, c16, e16⟩ := ro_slice h16
    obtain ⟨n16, hn16⟩ : ∃ n, (endT t { j with credit := cr } st).active.length = n := ⟨_, rfl⟩
    rw [hn16] at e16
    subst e16
    have hXz := HX.out.below hE3
    refine opOk_store 43 (.tmp 38) (.tmp 36) rfl (.pointer (some ⟨X, 2, none⟩)) (.slice a16 n16 c16) rfl rfl (run_jobs_store wz X 2 _ a16 n16 c16 (hXz.get 2 rfl) (hXz.free 2)) ?_
    have hC2 := chg_setCell wz X 2 (.slice a16 n16 c16)
    have lX2 := HX.out.lt
    have lXw := HX1.out.lt
    have X3 := hid (show Blk (wz.setCell ⟨X, 2, none⟩ (.slice a16 n16 c16)) X (xV t (.slice a16 n16 c16) ov) 100 from hXz.set 2 _)
    have O3 := hid (h16.chg hC2 (by intro q hq; have := h16.ownBlock q hq; simp; omega))
    have K3 := hid ((K2.out.below hE3).keep hC2 (by have := Zs.out; simp; omega))
    have C3 := hid ((Chg.of_below [X] B2.out).trans ((Chg.of_below [X] (hE3)).trans hC2))
    have S3 := hid (Nat.le_trans hE3.size (Nat.le_of_eq (by simp)) : w2.heap.size ≤ (wz.setCell ⟨X, 2, none⟩ (.slice a16 n16 c16)).heap.size)
    generalize (wz.setCell ⟨X, 2, none⟩ (.slice a16 n16 c16)) = w3 at X3 O3 K3 C3 S3 ⊢
    clear h16 hE hE3 hXz hC2
    obtain ⟨ao, no, co, rfl, hno, hnco, hcso⟩ := HH.out.over.cs
    subst hno
    have HNo := hid hnco
    have HCo := hid (hcso.chg C3.out (by intro q hq; have h2 := HH.out.ne.2; rw [hq] at h2; simpa [Value.ownBlock] using h2))
    clear hnco hcso
    go_upto_region 3 with fail
    refine wp_region_new 12 9 [1, 6, 8] (fun idx v w' => match idx with
      | 0 | 2 | 3 | 10 => v = .pointer (some ⟨X, 0, none⟩)
      | 4 | 11 => v = .pointer (some ⟨X, 3, none⟩)
      | 5 => v = .slice ao t.over.length co
      | 1 => ∃ b, v = .slice (some ⟨b, 0, none⟩) 0 0 ∧ Blk w' b [] 37 ∧ w3.heap.size ≤ b
      | 6 => RO jobV 6 w' w3.heap.size 37 v t.over
      | 7 => v = .agg (jobV { j with state := st, credit := cr }).toArray
      | 8 => ∃ b, v = .slice (some ⟨b, 0, none⟩) 1 1 ∧ CS w' (some ⟨b, 0, none⟩) 1 6 ([{ j with state := st, credit := cr }].flatMap jobV)
      | 9 => RO jobV 6 w' w3.heap.size 37 v (t.over ++ [{ j with state := st, credit := cr }])
      | _ => True) (by kernel_rfl) (by kernel_rfl) (by kernel_rfl) (by kernel_rfl) ?_ ?_ ?_ ?_
    · intro j v wx wy hR hb
      match j, hR with
      | 0, hR | 2, hR | 3, hR | 10, hR | 4, hR | 11, hR | 5, hR | 7, hR => exact hR
      | 1, hR => exact (by obtain ⟨b, e, h1, h2⟩ := hR; exact ⟨b, e, h1.below hb, h2⟩)
      | 6, hR => exact RO.below hR hb
      | 8, hR => exact (by obtain ⟨b, e, h1⟩ := hR; exact ⟨b, e, h1.below hb⟩)
      | 9, hR => exact RO.below hR hb
      | _ + 12, _ => trivial
    · intro j v wx wy hne hcon hR hb
      match j, hR with
      | 0, hR | 2, hR | 3, hR | 10, hR | 4, hR | 11, hR | 5, hR | 7, hR => exact hR
      | 1, _ => exact absurd hcon (by decide)
      | 6, _ => exact absurd hcon (by decide)
      | 8, _ => exact absurd hcon (by decide)
      | 9, _ => exact (hne rfl).elim
      | _ + 12, _ => trivial
    · refine ⟨?_, ?_, ?_, ?_, ?_, ?_, ?_, ?_, ?_, ?_, ?_, ?_, trivial⟩
      all_goals intro ρ wx hE hc hg hf
      · intro h0; exact opOk_move _ rfl ⟨Below.refl _ _, h0⟩
      · exact opOk_lit0J rfl fun h => ⟨below_alloc wx _, wx.heap.size, rfl, h, hE.1⟩
      · intro h0; exact opOk_move _ rfl ⟨Below.refl _ _, h0⟩
      · intro (h0 : ρ (.tmp 41) = .pointer (some ⟨X, 0, none⟩))
        exact opOk_run (v := .pointer (some ⟨X, 0, none⟩)) (w' := wx) (by go_simp) ⟨Below.refl _ _, rfl⟩
      · intro (h0 : ρ (.tmp 42) = .pointer (some ⟨X, 0, none⟩))
        exact opOk_run (v := .pointer (some ⟨X, 3, none⟩)) (w' := wx) (by go_simp) ⟨Below.refl _ _, rfl⟩
      · intro (h0 : ρ (.tmp 43) = .pointer (some ⟨X, 3, none⟩))
        have hE0 : Below w3.drew.heap.size w3.drew wx := hE.2 (Nat.le_refl _)
        have c := (X3.out.below ((below_drew _).trans hE0)).get 3 rfl
        exact opOk_load _ _ rfl _ _ h0 (run_jobs_at _ _ _ _ c) ⟨Below.refl _ _, rfl⟩
      · intro ⟨b, h0, hB, hb⟩ (h1 : ρ (.tmp 44) = .slice ao t.over.length co)
        have hE0 : Below w3.drew.heap.size w3.drew wx := hE.2 (Nat.le_refl _)
        exact opOk_append_lit0J _ _ rfl b h0 hB (l := t.over) (HCo.out.below ((below_drew w3).trans hE0)) rfl HNo.out h1 (by have := HF.out; omega) w3.heap.size hb fun v' w' h2 h3 => ⟨h3, h2⟩
      · intro (h0 : ρ (.tmp 8) = .pointer (some ⟨z, 0, none⟩))
        have hE0 : Below w3.drew.heap.size w3.drew wx := hE.2 (Nat.le_refl _)
        exact opOk_load_row _ _ rfl z 0 (jobV { j with state := st, credit := cr }) h0 (Blk.range (K3.out.below ((below_drew _).trans hE0))) row_job size_job ⟨Below.refl _ _, rfl⟩
      · intro (h0 : ρ (.tmp 46) = .agg (jobV { j with state := st, credit := cr }).toArray)
        exact opOk_one1J _ rfl _ h0 fun h => ⟨below_alloc wx _, wx.heap.size, rfl, h⟩
      · intro h0 ⟨b, h1, hs⟩
        have hE : Below w3.drew.heap.size w3.drew wx := hE
        exact opOk_appendJs _ _ rfl w3.heap.size _ _ h0 rfl hs rfl (Nat.le_refl _) h1 (by have := HF.out; simp; omega) hE.size fun v' w' h2 h3 => ⟨⟨h3.size, fun _ => h3⟩, h2⟩
      · intro (h0 : ρ (.tmp 39) = .pointer (some ⟨X, 0, none⟩))
        exact opOk_run (v := .pointer (some ⟨X, 0, none⟩)) (w' := wx) (by go_simp) ⟨Below.refl _ _, rfl⟩
      · intro (h0 : ρ (.tmp 49) = .pointer (some ⟨X, 0, none⟩))
        exact opOk_run (v := .pointer (some ⟨X, 3, none⟩)) (w' := wx) (by go_simp) ⟨Below.refl _ _, rfl⟩
    · intro wz hE
      rintro _ rfl _ _ _ rfl _ rfl _ rfl _ rfl _ _ _ rfl _ _ v9 h9 _ rfl _ rfl
      simp only [PutLast, Act.put, List.setIfInBounds_toArray, List.set_cons_succ, List.set_cons_zero]
      have hE3 : Below w3.heap.size w3 wz := hE
      obtain ⟨a9, c9, e9⟩ := ro_slice h9
      rw [List.length_append, List.length_singleton] at e9
      subst e9
      have hXz := X3.out.below hE3
      refine opOk_store 43 (.tmp 50) (.tmp 48) rfl (.pointer (some ⟨X, 3, none⟩)) (.slice a9 (t.over.length + 1) c9) rfl rfl (run_jobs_store wz X 3 _ a9 (t.over.length + 1) c9 (hXz.get 3 rfl) (hXz.free 3)) ?_
      have hC2 := chg_setCell wz X 3 (.slice a9 (t.over.length + 1) c9)
      have lX3 := X3.out.lt
      have X4 := hid (show Blk (wz.setCell ⟨X, 3, none⟩ (.slice a9 (t.over.length + 1) c9)) X (xV t (.slice a16 n16 c16) (.slice a9 (t.over.length + 1) c9)) 100 from hXz.set 3 _)
      have A4 := hid ((O3.out.below hE3).chg hC2 (by intro q hq; have := O3.out.ownBlock q hq; have := S3.out; have := HX1.out.lt; have := B2.out.size; simp; omega))
      have V4 := hid (h9.chg hC2 (by intro q hq; have := h9.ownBlock q hq; simp; omega))
      have C4 := hid (C3.out.trans ((Chg.of_below [X] hE3).trans hC2))
      have P4 := hid (show ∀ q, (Value.slice a16 n16 c16).ownBlock = some q → w.heap.size ≤ q ∧ q < w3.heap.size from fun q hq => by have h1 := O3.out.ownBlock q hq; have h2 := RO.jr O3.out (Nat.le_refl _); have := B2.out.size; exact ⟨by omega, (h2.own hq).2.1⟩)
      have Q4 := hid (show ∀ q, (Value.slice a9 (t.over.length + 1) c9).ownBlock = some q → w3.heap.size ≤ q from fun q hq => (h9.ownBlock q hq).1)
      have L4 := hid (show w.heap.size ≤ w3.heap.size from Nat.le_trans B2.out.size S3.out)
      generalize (wz.setCell ⟨X, 3, none⟩ (.slice a9 (t.over.length + 1) c9)) = w4 at X4 A4 V4 C4 ⊢
      clear h9 hE hE3 hXz hC2 X3 O3 K3 C3
      have r3 := X4.out.get 3 rfl
      have s3 := X4.out.free 3
      have hn65 : (t.over.length : Int) ≤ 64 := by have := HF.out; omega
      by_cases h65 : 64 ≤ t.over.length
      · have h65' : (64 : Int) < (t.over.length : Int) + 1 := by omega
        obtain ⟨x, r, exr⟩ : ∃ x r, t.over ++ [{ j with state := st, credit := cr }] = x :: r := by
          cases h : t.over with
          | nil => exact ⟨_, [], rfl⟩
          | cons y q => exact ⟨y, q ++ [{ j with state := st, credit := cr }], rfl⟩
        have hJ6 : JR w4 w3.heap.size (.slice a9 (t.over.length + 1) c9) (x :: r) := by rw [← exr]; exact RO.jr V4.out (Nat.le_refl _)
        obtain ⟨v5, hr5, hJ7, hb5⟩ := jr_cut hJ6
        obtain ⟨a5, n5, c5, e5, hn5, hc5, _⟩ := hJ7.cs
        subst e5
        have HEO := hid (show (endT t { j with credit := cr } st).over = r from by show overT t.over _ = r; unfold overT; rw [if_pos (by omega), exr]; rfl)
        have J7 := hid hJ7
        have W5 := hid hb5
        clear hJ6 exr hn5 hc5 hJ7 hb5 h65
        go_wp2_with (refine wpList_cutJ (.tmp 61) rfl rfl a9 (t.over.length + 1) c9 _ rfl hr5 ?_)
        refine bodyPost_end (results_none rfl _ _ _) rfl ?_
        have hC5 := chg_setCell w4 X 3 (.slice a5 n5 c5)
        have hXw := HX1.out.lt
        refine ⟨rfl, .slice a16 n16 c16, .slice a5 n5 c5, ⟨X4.out.set 3 _, (RO.jr (A4.out.chg hC5 (by intro q hq; have := (P4.out q hq).1; simp; omega)) (by have := HH.out.ge; have := B2.out.size; omega)), ?_, HH.out.ge, HOK.out⟩, ?_, ?_⟩
        · rw [HEO.out]
          exact (J7.out.chg hC5 (by intro q hq; rw [W5.out] at hq; have := Q4.out q hq; have := L4.out; simp; omega)).base (by have := HH.out.ge; have := L4.out; omega)
        · exact (C4.out.trans hC5).mono (by intro q hq; simp at hq; simp [xS, hq])
        · intro q hq
          rcases List.mem_cons.1 hq with rfl | hq
          · exact .inl (by simp [xS])
          · rcases List.mem_append.1 hq with hq | hq
            · exact .inr (P4.out q (by simpa using hq)).1
            · exact .inr (by have := Q4.out q (by rw [← W5.out]; simpa using hq); have := L4.out; omega)
      · have h65' : ¬ ((64 : Int) < (t.over.length : Int) + 1) := by omega
        have HEO := hid (show (endT t { j with credit := cr } st).over = t.over ++ [{ j with state := st, credit := cr }] from by show overT t.over _ = _; unfold overT; rw [if_neg (by omega)])
        clear h65
        go_wp2_with fail
        refine bodyPost_end (results_none rfl _ _ _) rfl ?_
        refine ⟨rfl, .slice a16 n16 c16, .slice a9 (t.over.length + 1) c9, ⟨X4.out, (RO.jr A4.out (by have := HH.out.ge; have := B2.out.size; have := HX1.out.lt; omega)), ?_, HH.out.ge, HOK.out⟩, ?_, ?_⟩
        · rw [HEO.out]
          exact RO.jr V4.out (by have := HH.out.ge; have := L4.out; have := HX1.out.lt; omega)
        · exact C4.out.mono (by intro q hq; simp at hq; simp [xS, hq])
        · intro q hq
          rcases List.mem_cons.1 hq with rfl | hq
          · exact .inl (by simp [xS])
          · rcases List.mem_append.1 hq with hq | hq
            · exact .inr (P4.out q (by simpa using hq)).1
            · exact .inr (by have := Q4.out q (by simpa using hq); have := L4.out; omega)

end Go.Proofs.YtombndhjoaaaiaaDoor

/- The walks of layer 16: the document's Finish, Credit, State; asked: that the table is whole. -/
namespace Go.Proofs.YtombndhjoaaaiaaDoor
open Go.RowKit Go.Quad _root_.Quad _root_.Quad.Ink

theorem wpList_ok {P : Program} {w : World} {ops : Array Oper} {rest : List Oper} {o : Oper} {ac : Act} {Q : Exit → Act → World → Prop} (hw : Region.wanted o (yielded ops ac.tmps) = true)
    (h : OpOk P o ac.eval w fun v w' => wpList P ops Q rest (ac.put o.dst v) w') : wpList P ops Q (o :: rest) ac w := by
  unfold wpList
  rw [if_pos hw]
  left
  unfold Oper.wp
  unfold OpOk at h
  split at h
  · rename_i v w' e; rw [e]; exact h
  · rename_i w' e; rw [e]; exact h
  · rename_i f args w' e
    rw [e, Oper.upon_enter]
    refine h.mono ?_
    rintro e w'' ⟨v, rfl, hk⟩
    exact hk
  · exact h.elim
theorem XTo.after {w w1 : World} {B X : Nat} {av ov : Value} {t t' : TbD} {r : Value} {e : Ending} {w2 : World} (h : IsX w B X av ov t) (hb : Below w.heap.size w w1) (h2 : XTo w1 B X av ov t' r e w2) : XTo w B X av ov t' r e w2 := by
  obtain ⟨he, av', ov', h3, h4, h5⟩ := h2
  refine ⟨he, av', ov', h3, (Chg.of_below _ hb).trans h4, fun k hk => ?_⟩
  rcases h5 k hk with h | h
  · exact .inl h
  · exact .inr (Nat.le_trans hb.size h)
theorem jobV_set_at (j j' : JobD) (f : Nat) (u : Value) (hf : f < 6) (h : jobV j' = (jobV j).set f u) {l : List JobD} {k : Nat} (hk : k < l.length) (hj : l[k] = j) : (l.set k j').flatMap jobV = (l.flatMap jobV).set (k * 6 + f) u :=
  (flat_set jobV 6 jobV_length l k f j j' u (by rw [List.getElem?_eq_getElem hk, hj]) hf h).symm
/-- a job of a row -/
theorem JR.at {w : World} {B : Nat} {v : Value} {l : List JobD} (h : JR w B v l) {k : Nat} (hk : k < l.length) {j : JobD} (hj : l[k] = j) :
    ∃ g off cap, v = .slice (some ⟨g, off, none⟩) l.length cap ∧ B ≤ g ∧ g < w.heap.size ∧ (∀ f u, (jobV j)[f]? = some u → w.cell? ⟨g, off + k * 6 + f, none⟩ = some u ∧ w.frozen? ⟨g, off + k * 6 + f, none⟩ = false) ∧
      ∀ (f : Nat) (u : Value) (j' : JobD), f < 6 → jobV j' = (jobV j).set f u → JR (w.setCell ⟨g, off + k * 6 + f, none⟩ u) B v (l.set k j') := by
  rcases h with ⟨_, rfl⟩ | ⟨g, off, cap, cur, rfl, hB, hb, h1, h2, h3, h4⟩
  · exact absurd hk (by simp)
  · refine ⟨g, off, cap, rfl, hB, hb.lt, fun f u hu => ⟨?_, hb.free _⟩, fun f u j' hf hj' => ?_⟩
    · rw [hb.cell, show off + k * 6 + f = off + (k * 6 + f) from by omega]
      have hf : f < 6 := by have := (List.getElem?_eq_some_iff.1 hu).1; rwa [jobV_length] at this
      exact h4 _ _ (by rw [flat_get jobV 6 jobV_length l k f j (by rw [List.getElem?_eq_getElem hk, hj]) hf]; exact hu)
    · refine .inr ⟨g, off, cap, cur.set (off + k * 6 + f) u, by rw [List.length_set], hB, hb.set _ _, by rw [List.length_set]; exact h1, h2, by rw [List.length_set]; exact h3, fun i x hx => ?_⟩
      rw [jobV_set_at j j' f u hf hj' hk hj] at hx
      rw [List.getElem?_set] at hx ⊢
      by_cases e : k * 6 + f = i
      · subst e
        rw [if_pos rfl] at hx
        rw [if_pos (by omega)]
        split at hx
        · rename_i hlt
          rw [flat6] at hlt
          rw [if_pos (by omega)]; exact hx
        · cases hx
      · rw [if_neg e] at hx
        rw [if_neg (by omega)]
        exact h4 i x hx
theorem map_set : ∀ {l : List JobD} {k : Nat} (hk : k < l.length) (j' : JobD), l.Pairwise (fun a b => a.id < b.id) → j'.id = l[k].id → l.map (fun x => if x.id = j'.id then j' else x) = l.set k j'
  | [], _, hk, _, _, _ => absurd hk (by simp)
  | x :: l, 0, _, j', hp, h => by
    rw [List.pairwise_cons] at hp
    have h : j'.id = x.id := h
    rw [List.map_cons, if_pos h.symm, List.set_cons_zero]
    congr 1
    conv => rhs; rw [← List.map_id l]
    refine List.map_congr_left fun y hy => ?_
    rw [if_neg (by have := hp.1 y hy; omega)]; rfl
  | x :: l, k + 1, hk, j', hp, h => by
    rw [List.pairwise_cons] at hp
    have hk' : k < l.length := by simpa using hk
    have h : j'.id = l[k].id := h
    rw [List.map_cons, List.set_cons_succ, if_neg (by have := hp.1 l[k] (List.getElem_mem hk'); omega), map_set hk' j' hp.2 h]

set_option maxRecDepth 100000 in
set_option maxHeartbeats 20000000 in
theorem rfinish_calls (w : World) (B X : Nat) (av ov : Value) (t : TbD) (id : Nat) (h : IsX w B X av ov t) (hI : id < 4294967296) :
    Calls Tryd.prog 25 #[.pointer (some ⟨X, 0, none⟩), .int .u32 (id : Int)] w (XTo w B X av ov (finishT t id).1 (.int .i64 (finishT t id).2)) := by
  have HG := hid (rget_calls w B X av ov t id h hI)
  have H := hid h
  obtain ⟨hg1, hg2⟩ := getI_getT h.ok id
  have hfin : finishT t id = if (getT t id).2 ≠ 0 then (t, (getT t id).2) else (endT t { (getT t id).1 with credit := (getT t id).1.w } 4, 0) := rfl
  obtain ⟨⟨j, ej⟩, hg⟩ : ∃ r, getT t id = r := ⟨_, rfl⟩
  obtain ⟨⟨iv, ie⟩, hi⟩ : ∃ r, getI t id = r := ⟨_, rfl⟩
  have hrg := getT_rng h.ok (id := id)
  have E1 : getI t id = (iv, ie) := hi
  rw [hg] at hg1 hg2 hfin hrg
  rw [hi] at hg1 hg2
  dsimp only at hg1 hg2 hfin hrg
  subst hg1
  by_cases h0 : ie = 0
  · subst h0
    obtain ⟨k, hk1, hk2, hk3⟩ := hg2 rfl
    subst hk1
    have HF := hid (show finishT t id = (endT t { j with credit := j.w } 4, 0) from by rw [hfin, if_neg (by decide)])
    have HR := hid (hrg rfl)
    have HK := hid hk2
    have HJ := hid hk3
    have FEW := hid h.ok.few
    obtain ⟨b1, o1, c1, hav, _, _, hcells, _⟩ := h.act.at hk2 hk3
    subst hav
    have kl : (k : Int) < (t.active.length : Int) := by omega
    have CW := hid (hcells 3 _ rfl).1
    have CX := hid (h.own.get 2 rfl)
    clear h hg hi hfin hrg hk3 hcells hg2
    go_enter Tryd.func25, Tryd.ntmps25
    go_upto_region 3 with (go_at_call 53; go_loud (refine HG.out.mono ?_; rintro e w1 ⟨rfl, hb1⟩; have B1 := hid hb1; clear hb1; simp only [E1]))
    clear HG
    have H1 := hid (H.out.below B1.out)
    have c2 := H1.out.own.get 2 rfl
    have c3 : w1.cell? ⟨b1, o1 + k * 6 + 3, none⟩ = some (.int .i64 j.w) := cell_later B1.out CW.out
    have HE := hid (rend_calls w1 B X _ ov t k j 4 j.w H1.out HK.out HJ.out (by have := HR.out; omega) (.inl rfl))
    go_wp2_with (go_at_call 54; go_must (refine HE.out.mono ?_; rintro e w2 hx; obtain ⟨rfl, hx⟩ := hx; have X2 := hid hx; clear hx))
    go_ret
    rw [HF.out]
    exact XTo.after H.out B1.out ⟨rfl, X2.out⟩
  · have HF := hid (show finishT t id = (t, ie) from by rw [hfin, if_pos h0])
    have h0' : (ie == 0) = false := by simpa using h0
    clear h hg hi hfin hrg hg2
    go_enter Tryd.func25, Tryd.ntmps25
    go_wp2_with (go_at_call 53; go_loud (refine HG.out.mono ?_; rintro e w1 ⟨rfl, hb1⟩; have B1 := hid hb1; clear hb1; simp only [E1]))
    go_ret
    rw [HF.out]
    exact XTo.same H.out B1.out
set_option maxRecDepth 100000 in
set_option maxHeartbeats 20000000 in
theorem rcredit_calls (w : World) (B X : Nat) (av ov : Value) (t : TbD) (id : Nat) (n : Int) (h : IsX w B X av ov t) (hI : id < 4294967296) (hn : -9223372036854775808 ≤ n ∧ n ≤ 9223372036854775807) :
    Calls Tryd.prog 26 #[.pointer (some ⟨X, 0, none⟩), .int .u32 (id : Int), .int .i64 n] w (XTo w B X av ov (creditT t id n).1 (.int .i64 (creditT t id n).2)) := by
  have HG := hid (rget_calls w B X av ov t id h hI)
  have H := hid h
  obtain ⟨hg1, hg2⟩ := getI_getT h.ok id
  have hfin : creditT t id n = if (getT t id).2 ≠ 0 then (t, (getT t id).2) else if n < 0 ∨ (getT t id).1.w < n then (t, 1) else if n < (getT t id).1.credit then (t, 12) else (setT t { (getT t id).1 with credit := n }, 0) := rfl
  have hok := creditT_ok h.ok id n
  obtain ⟨⟨j, ej⟩, hg⟩ : ∃ r, getT t id = r := ⟨_, rfl⟩
  obtain ⟨⟨iv, ie⟩, hi⟩ : ∃ r, getI t id = r := ⟨_, rfl⟩
  have hrg := getT_rng h.ok (id := id)
  have hz := getT_zero h.ok (id := id)
  have E1 : getI t id = (iv, ie) := hi
  rw [hg] at hg1 hg2 hfin hrg hz
  rw [hi] at hg1 hg2
  dsimp only at hg1 hg2 hfin hrg hz
  subst hg1
  by_cases h0 : ie = 0
  · subst h0
    obtain ⟨k, hk1, hk2, hk3⟩ := hg2 rfl
    subst hk1
    have HR := hid (hrg rfl)
    have HK := hid hk2
    have HJ := hid hk3
    have FEW := hid h.ok.few
    have RI := hid h.ok.rise
    rw [if_neg (by decide)] at hfin
    obtain ⟨b1, o1, c1, hav, _, _, hcells, _⟩ := h.act.at hk2 hk3
    subst hav
    obtain ⟨a1, n1, c1', e1, hn1, hnc1, hcs1⟩ := h.act.cs
    simp only [Value.slice.injEq] at e1
    obtain ⟨rfl, rfl, rfl⟩ := e1
    have HC := hid hcs1
    have HN := hid hnc1
    have kl : (k : Int) < (t.active.length : Int) := by omega
    have CW := hid (hcells 3 _ rfl).1
    have CR := hid (hcells 5 _ rfl).1
    have OK := hid hok
    clear h hg hi hrg hz hk3 hcells hg2 hn1 hnc1 hcs1 hok
    go_enter Tryd.func26, Tryd.ntmps26
    go_upto_region 2 with (go_at_call 53; go_loud (refine HG.out.mono ?_; rintro e w1 ⟨rfl, hb1⟩; have B1 := hid hb1; clear hb1; simp only [E1]))
    clear HG
    have H1 := hid (H.out.below B1.out)
    have c2 := H1.out.own.get 2 rfl
    have c3 : w1.cell? ⟨b1, o1 + k * 6 + 3, none⟩ = some (.int .i64 j.w) := cell_later B1.out CW.out
    have c5 : w1.cell? ⟨b1, o1 + k * 6 + 5, none⟩ = some (.int .i64 j.credit) := cell_later B1.out CR.out
    by_cases n0 : n < 0
    · have HF := hid (show creditT t id n = (t, 1) from by rw [hfin, if_pos (.inl n0)])
      clear hfin
      go_wp2_with fail
      go_ret
      rw [HF.out]
      exact XTo.same H.out B1.out
    by_cases n1 : j.w < n
    · have HF := hid (show creditT t id n = (t, 1) from by rw [hfin, if_pos (.inr n1)])
      clear hfin
      go_wp2_with fail
      go_ret
      rw [HF.out]
      exact XTo.same H.out B1.out
    by_cases n2 : n < j.credit
    · have HF := hid (show creditT t id n = (t, 12) from by rw [hfin, if_neg (by omega), if_pos n2])
      clear hfin
      go_wp2_with fail
      go_ret
      rw [HF.out]
      exact XTo.same H.out B1.out
    have HF := hid (show creditT t id n = (setT t { j with credit := n }, 0) from by rw [hfin, if_neg (by omega), if_neg n2])
    clear hfin
    go_upto_region 8 with fail
    clear c2
    have lX1 := H1.out.own.lt
    repeat (first | (refine wpList_ok (o := ⟨some 43, _, _, _, _, _⟩) rfl ?_; refine opOk_lit0J rfl fun h4 => ?_; obtain ⟨z4, hz4⟩ : ∃ z, w1.heap.size = z := ⟨_, rfl⟩; have Z4 := hid hz4; have B4 := hid (below_alloc w1 (.cells #[] 37)); have K4 := hid h4; clear h4; rw [hz4] at K4 ⊢; clear hz4; generalize (w1.alloc (.cells #[] 37)) = w4 at K4 B4 ⊢; have X4 := hid (H1.out.own.below B4.out); have d2 := X4.out.get 2 rfl) | ((fail_if_success (refine wpList_ok (o := ⟨some 48, _, _, _, _, _⟩) rfl ?_)); go_step))
    refine wpList_ok (o := ⟨some 48, _, _, _, _, _⟩) rfl ?_
    refine opOk_append_lit0J _ _ rfl z4 rfl K4.out (l := t.active) (HC.out.chg (Chg.of_below [] (B1.out.trans (B4.out.mono B1.out.size))) (by simp)) rfl HN.out rfl (by have := FEW.out; omega) w1.heap.size (Nat.le_of_eq Z4.out) fun v5 w5 h5 hb5 => ?_
    clear d2
    obtain ⟨g5, o5, c5', e5, hB5, hl5, hcells5, hset5⟩ := (RO.jr h5 (Nat.le_refl _)).at HK.out HJ.out; subst e5; have B5 := hid hb5; have R5 := hid h5; clear hb5 h5; have X5 := hid (X4.out.below B5.out); have d5 := X5.out.get 2 rfl; have e5 := X5.out.free 2
    go_upto_region 9 with fail
    have hgX : g5 ≠ X := by omega
    have X6 := hid (show Blk (w5.setCell ⟨X, 2, none⟩ (.slice (some ⟨g5, o5, none⟩) t.active.length c5')) X (xV t (.slice (some ⟨g5, o5, none⟩) t.active.length c5') ov) 100 from X5.out.set 2 _)
    have C6 := hid (chg_setCell w5 X 2 (.slice (some ⟨g5, o5, none⟩) t.active.length c5'))
    have hj6 := ((RO.jr R5.out (Nat.le_refl _)).chg C6.out (by intro q hq; simp [Value.ownBlock] at hq; subst hq; simpa using hgX)).at HK.out HJ.out
    obtain ⟨g6, o6, c6', e6, hB6, hl6, hcells6, hset6⟩ := hj6
    simp only [Value.slice.injEq, Option.some.injEq, Addr.mk.injEq] at e6
    obtain ⟨⟨rfl, rfl, _⟩, _, rfl⟩ := e6
    have S6 := hid (hset6 5 (.int .i64 n) { j with credit := n } (by decide) rfl)
    have f6 := hcells6 5 _ rfl
    have B06 := hid (show Below w.heap.size w w5 from B1.out.trans ((B4.out.trans (B5.out.mono B4.out.size)).mono B1.out.size))
    have G6 := hid (show w.heap.size ≤ g5 from Nat.le_trans B1.out.size hB5)
    clear hcells5 hset5 hcells6 hset6 d5 e5 hB6 hl5 hB5
    generalize (w5.setCell ⟨X, 2, none⟩ (.slice (some ⟨g5, o5, none⟩) t.active.length c5')) = w6 at X6 C6 S6 f6 hl6 ⊢
    have x6 := X6.out.get 2 rfl
    have f6a := f6.1
    have f6b := f6.2
    clear f6
    go_wp2_with fail
    go_ret
    have HXX := H.out
    have cg := chg_setCell w6 g5 (o5 + k * 6 + 5) (.int .i64 n)
    have lXw := H.out.own.lt
    have cg2 : Chg [X] w5 (w6.setCell ⟨g5, o5 + k * 6 + 5, none⟩ (.int .i64 n)) ∨ True := .inr trivial
    rw [HF.out]
    have OK2 := OK.out
    rw [HF.out] at OK2
    have EA : (setT t { j with credit := n }).active = t.active.set k { j with credit := n } := map_set HK.out { j with credit := n } RI.out (by rw [HJ.out])
    have hall : Chg [X] w (w6.setCell ⟨g5, o5 + k * 6 + 5, none⟩ (.int .i64 n)) := ((Chg.of_below [X] B06.out).trans C6.out).newer cg (by intro q hq; simp at hq; rw [hq]; exact G6.out)
    refine ⟨rfl, .slice (some ⟨g5, o5, none⟩) t.active.length c5', ov, ⟨X6.out.keep cg (by simpa using hgX.symm), (by rw [EA]; exact S6.out.base (by have := HXX.ge; have := B1.out.size; omega)), ((HXX.over.chg (Chg.of_below [] B06.out) (by simp)).chg C6.out (by intro q hq hm; simp at hm; subst hm; exact HXX.ne.2 hq)).chg cg (by intro q hq hm; simp at hm; subst hm; have := (HXX.over.own hq).2.1; have := G6.out; omega), HXX.ge, OK2⟩, hall.mono (by intro q hq; simp at hq; simp [xS, hq]), fun q hq => ?_⟩
    rcases List.mem_cons.1 hq with rfl | hq
    · exact .inl (by simp [xS])
    · rcases List.mem_append.1 hq with hq | hq
      · simp [Value.ownBlock] at hq; subst hq; exact .inr G6.out
      · exact .inl (by simp [xS]; right; right; simpa using hq)
  · have HF := hid (show creditT t id n = (t, ie) from by rw [hfin, if_pos h0])
    have h0' : (ie != 0) = true := by simpa using h0
    clear h hg hi hfin hrg hg2 hok hz
    go_enter Tryd.func26, Tryd.ntmps26
    go_wp2_with (go_at_call 53; go_loud (refine HG.out.mono ?_; rintro e w1 ⟨rfl, hb1⟩; have B1 := hid hb1; clear hb1; simp only [E1]))
    go_ret
    rw [HF.out]
    exact XTo.same H.out B1.out
set_option maxRecDepth 100000 in
set_option maxHeartbeats 20000000 in
theorem rstate_calls (w : World) (B X : Nat) (av ov : Value) (t : TbD) (id : Nat) (s : Nat) (h : IsX w B X av ov t) (hI : id < 4294967296) (hn : s < 256) :
    Calls Tryd.prog 28 #[.pointer (some ⟨X, 0, none⟩), .int .u32 (id : Int), .int .u8 (s : Int)] w (XTo w B X av ov (stateT t id s).1 (.int .i64 (stateT t id s).2)) := by
  have HG := hid (rget_calls w B X av ov t id h hI)
  have H := hid h
  obtain ⟨hg1, hg2⟩ := getI_getT h.ok id
  have hfin : stateT t id s = if 3 < s then (t, 1) else if (getT t id).2 ≠ 0 then (t, (getT t id).2) else (setT t { (getT t id).1 with state := s }, 0) := rfl
  have hok := stateT_ok h.ok id s
  by_cases hs3 : 3 < s
  · have hs3' : (3 : Int) < (s : Int) := by omega
    have HF := hid (show stateT t id s = (t, 1) from by rw [hfin, if_pos hs3])
    clear h hok hfin hg1 hg2
    go_enter Tryd.func28, Tryd.ntmps28
    go_wp2_with fail
    go_ret
    rw [HF.out]
    exact XTo.same H.out (Below.refl _ _)
  have hs3' : ¬ ((3 : Int) < (s : Int)) := by omega
  rw [if_neg hs3] at hfin
  obtain ⟨⟨j, ej⟩, hg⟩ : ∃ r, getT t id = r := ⟨_, rfl⟩
  obtain ⟨⟨iv, ie⟩, hi⟩ : ∃ r, getI t id = r := ⟨_, rfl⟩
  have hrg := getT_rng h.ok (id := id)
  have hz := getT_zero h.ok (id := id)
  have E1 : getI t id = (iv, ie) := hi
  rw [hg] at hg1 hg2 hfin hrg hz
  rw [hi] at hg1 hg2
  dsimp only at hg1 hg2 hfin hrg hz
  subst hg1
  by_cases h0 : ie = 0
  · subst h0
    obtain ⟨k, hk1, hk2, hk3⟩ := hg2 rfl
    subst hk1
    have HR := hid (hrg rfl)
    have HK := hid hk2
    have HJ := hid hk3
    have FEW := hid h.ok.few
    have RI := hid h.ok.rise
    rw [if_neg (by decide)] at hfin
    obtain ⟨b1, o1, c1, hav, _, _, hcells, _⟩ := h.act.at hk2 hk3
    subst hav
    obtain ⟨a1, n1, c1', e1, hn1, hnc1, hcs1⟩ := h.act.cs
    simp only [Value.slice.injEq] at e1
    obtain ⟨rfl, rfl, rfl⟩ := e1
    have HC := hid hcs1
    have HN := hid hnc1
    have kl : (k : Int) < (t.active.length : Int) := by omega
    have CW := hid (hcells 3 _ rfl).1
    have HF := hid hfin
    have OK := hid hok
    clear hfin
    clear h hg hi hrg hz hk3 hcells hg2 hn1 hnc1 hcs1 hok
    go_enter Tryd.func28, Tryd.ntmps28
    go_upto_region 6 with (go_at_call 53; go_loud (refine HG.out.mono ?_; rintro e w1 ⟨rfl, hb1⟩; have B1 := hid hb1; clear hb1; simp only [E1]))
    clear HG
    have H1 := hid (H.out.below B1.out)
    have c2 := H1.out.own.get 2 rfl
    go_upto_region 7 with fail
    clear c2
    have lX1 := H1.out.own.lt
    repeat (first | (refine wpList_ok (o := ⟨some 22, _, _, _, _, _⟩) rfl ?_; refine opOk_lit0J rfl fun h4 => ?_; obtain ⟨z4, hz4⟩ : ∃ z, w1.heap.size = z := ⟨_, rfl⟩; have Z4 := hid hz4; have B4 := hid (below_alloc w1 (.cells #[] 37)); have K4 := hid h4; clear h4; rw [hz4] at K4 ⊢; clear hz4; generalize (w1.alloc (.cells #[] 37)) = w4 at K4 B4 ⊢; have X4 := hid (H1.out.own.below B4.out); have d2 := X4.out.get 2 rfl) | ((fail_if_success (refine wpList_ok (o := ⟨some 27, _, _, _, _, _⟩) rfl ?_)); go_step))
    refine wpList_ok (o := ⟨some 27, _, _, _, _, _⟩) rfl ?_
    refine opOk_append_lit0J _ _ rfl z4 rfl K4.out (l := t.active) (HC.out.chg (Chg.of_below [] (B1.out.trans (B4.out.mono B1.out.size))) (by simp)) rfl HN.out rfl (by have := FEW.out; omega) w1.heap.size (Nat.le_of_eq Z4.out) fun v5 w5 h5 hb5 => ?_
    clear d2
    obtain ⟨g5, o5, c5', e5, hB5, hl5, hcells5, hset5⟩ := (RO.jr h5 (Nat.le_refl _)).at HK.out HJ.out; subst e5; have B5 := hid hb5; have R5 := hid h5; clear hb5 h5; have X5 := hid (X4.out.below B5.out); have d5 := X5.out.get 2 rfl; have e5 := X5.out.free 2
    go_upto_region 8 with fail
    have hgX : g5 ≠ X := by omega
    have X6 := hid (show Blk (w5.setCell ⟨X, 2, none⟩ (.slice (some ⟨g5, o5, none⟩) t.active.length c5')) X (xV t (.slice (some ⟨g5, o5, none⟩) t.active.length c5') ov) 100 from X5.out.set 2 _)
    have C6 := hid (chg_setCell w5 X 2 (.slice (some ⟨g5, o5, none⟩) t.active.length c5'))
    have hj6 := ((RO.jr R5.out (Nat.le_refl _)).chg C6.out (by intro q hq; simp [Value.ownBlock] at hq; subst hq; simpa using hgX)).at HK.out HJ.out
    obtain ⟨g6, o6, c6', e6, hB6, hl6, hcells6, hset6⟩ := hj6
    simp only [Value.slice.injEq, Option.some.injEq, Addr.mk.injEq] at e6
    obtain ⟨⟨rfl, rfl, _⟩, _, rfl⟩ := e6
    have S6 := hid (hset6 4 (.int .u8 (s : Int)) { j with state := s } (by decide) rfl)
    have f6 := hcells6 4 _ rfl
    have B06 := hid (show Below w.heap.size w w5 from B1.out.trans ((B4.out.trans (B5.out.mono B4.out.size)).mono B1.out.size))
    have G6 := hid (show w.heap.size ≤ g5 from Nat.le_trans B1.out.size hB5)
    clear hcells5 hset5 hcells6 hset6 d5 e5 hB6 hl5 hB5
    generalize (w5.setCell ⟨X, 2, none⟩ (.slice (some ⟨g5, o5, none⟩) t.active.length c5')) = w6 at X6 C6 S6 f6 hl6 ⊢
    have x6 := X6.out.get 2 rfl
    have f6a := f6.1
    have f6b := f6.2
    clear f6
    go_wp2_with fail
    go_ret
    have HXX := H.out
    have cg := chg_setCell w6 g5 (o5 + k * 6 + 4) (.int .u8 (s : Int))
    have lXw := H.out.own.lt
    have cg2 : Chg [X] w5 (w6.setCell ⟨g5, o5 + k * 6 + 4, none⟩ (.int .u8 (s : Int))) ∨ True := .inr trivial
    rw [HF.out]
    have OK2 := OK.out
    rw [HF.out] at OK2
    have EA : (setT t { j with state := s }).active = t.active.set k { j with state := s } := map_set HK.out { j with state := s } RI.out (by rw [HJ.out])
    have hall : Chg [X] w (w6.setCell ⟨g5, o5 + k * 6 + 4, none⟩ (.int .u8 (s : Int))) := ((Chg.of_below [X] B06.out).trans C6.out).newer cg (by intro q hq; simp at hq; rw [hq]; exact G6.out)
    refine ⟨rfl, .slice (some ⟨g5, o5, none⟩) t.active.length c5', ov, ⟨X6.out.keep cg (by simpa using hgX.symm), (by rw [EA]; exact S6.out.base (by have := HXX.ge; have := B1.out.size; omega)), ((HXX.over.chg (Chg.of_below [] B06.out) (by simp)).chg C6.out (by intro q hq hm; simp at hm; subst hm; exact HXX.ne.2 hq)).chg cg (by intro q hq hm; simp at hm; subst hm; have := (HXX.over.own hq).2.1; have := G6.out; omega), HXX.ge, OK2⟩, hall.mono (by intro q hq; simp at hq; simp [xS, hq]), fun q hq => ?_⟩
    rcases List.mem_cons.1 hq with rfl | hq
    · exact .inl (by simp [xS])
    · rcases List.mem_append.1 hq with hq | hq
      · simp [Value.ownBlock] at hq; subst hq; exact .inr G6.out
      · exact .inl (by simp [xS]; right; right; simpa using hq)
  · have HF := hid (show stateT t id s = (t, ie) from by rw [hfin, if_pos h0])
    have h0' : (ie == 0) = false := by simpa using h0
    clear h hg hi hfin hrg hg2 hok hz
    go_enter Tryd.func28, Tryd.ntmps28
    go_wp2_with (go_at_call 53; go_loud (refine HG.out.mono ?_; rintro e w1 ⟨rfl, hb1⟩; have B1 := hid hb1; clear hb1; simp only [E1]))
    go_ret
    rw [HF.out]
    exact XTo.same H.out B1.out
end Go.Proofs.YtombndhjoaaaiaaDoor
