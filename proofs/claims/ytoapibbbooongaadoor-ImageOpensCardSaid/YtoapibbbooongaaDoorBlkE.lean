/- The walks of layer 6: the root is loaded. -/
import Derived.Test.YtoapibbbooongaaDoorBlkD
import Derived.Deep.CutRange
namespace Go.Proofs.YtoapibbbooongaaDoor
open Go.RowKit Go.Quad _root_.Quad _root_.Quad.Slab

def rootV (r : RootD) : List Value := [.int .u32 (r.turn : Int), .int .u32 (r.epoch : Int), .int .u32 (r.gen : Int), .int .u8 (r.area : Int)]
def zblk : Array Value := #[.int .u8 0, .int .u32 0, .int .u32 0, .int .u32 0, .slice none 0 0]
theorem info_blk : (Tryd.prog.info? 96).map (fun i => (i.zero, i.size)) = some (some (.agg zblk), 5) := by kernel_rfl
theorem size_blk : (Tryd.prog.info? 96).map (·.size) = some 5 := by kernel_rfl
theorem size_root : (Tryd.prog.info? 134).map (·.size) = some 4 := by kernel_rfl
def LoadTo (w : World) (r : RootD × Nat) (e : Ending) (w' : World) : Prop :=
  e = .returned (.tuple #[.agg #[.int .u32 (r.1.turn : Int), .int .u32 (r.1.epoch : Int), .int .u32 (r.1.gen : Int), .int .u8 (r.1.area : Int)], .int .i64 (r.2 : Int)]) ∧ Below w.heap.size w w'
def LdAt (s : Sl) (k : Nat) (best : Option RootD) : Prop := match k with
  | 0 => best = none
  | 1 => (readL s 0).2 = 0 ∧ best = stepR s 0 none
  | _ => (readL s 0).2 = 0 ∧ (readL s 1).2 = 0 ∧ best = stepR s 1 (stepR s 0 none)
theorem LdAt.step {s : Sl} {k : Nat} {best : Option RootD} (h : LdAt s k best) (hk : k < 2) (h0 : (readL s (k : Int)).2 = 0) : LdAt s (k + 1) (stepR s k best) := by
  have : k = 0 ∨ k = 1 := by omega
  rcases this with rfl | rfl
  · have h : best = none := h
    subst h
    exact ⟨h0, rfl⟩
  · have h : (readL s 0).2 = 0 ∧ best = stepR s 0 none := h
    exact ⟨h.1, h0, by rw [h.2]⟩
theorem LdAt.bad {s : Sl} {k : Nat} {best : Option RootD} (h : LdAt s k best) (hk : k < 2) (h0 : (readL s (k : Int)).2 ≠ 0) : loadB s = (rootZ, (readL s (k : Int)).2) := by
  have : k = 0 ∨ k = 1 := by omega
  unfold loadB
  rcases this with rfl | rfl
  · rw [if_pos (show (readL s 0).2 ≠ 0 from h0)]; rfl
  · have h : (readL s 0).2 = 0 ∧ best = stepR s 0 none := h
    rw [if_neg (by rw [h.1]; simp), if_pos (show (readL s 1).2 ≠ 0 from h0)]; rfl
def lastR : Option RootD → RootD × Nat
  | none => (rootZ, 4)
  | some r => (r, 0)
theorem LdAt.last {s : Sl} {best : Option RootD} (h : LdAt s 2 best) : loadB s = lastR best := by
  have h : (readL s 0).2 = 0 ∧ (readL s 1).2 = 0 ∧ best = stepR s 1 (stepR s 0 none) := h
  unfold loadB
  rw [if_neg (by rw [h.1]; simp), if_neg (by rw [h.2.1]; simp), h.2.2]
  rfl
theorem readL_err (s : Sl) (i : Int) : (readL s i).2 = 0 ∨ (readL s i).2 = 1 ∨ (readL s i).2 = 13 := by
  have key : hasL s i 0 = 0 ∨ hasL s i 0 = 1 ∨ hasL s i 0 = 13 := by
    unfold hasL
    split
    · exact .inr (.inl rfl)
    · split
      · omega
      · split
        · exact .inr (.inr rfl)
        · exact .inl rfl
  unfold readL
  split
  · exact key
  · exact .inl rfl
theorem readB_err (p : List UInt8) : (readB p).2 = 0 ∨ (readB p).2 = 6 ∨ (readB p).2 = 5 ∨ (readB p).2 = 4 := by
  unfold readB
  split
  · exact .inr (.inl rfl)
  · split
    · exact .inr (.inr (.inl rfl))
    · split
      · exact .inr (.inr (.inr rfl))
      · exact .inl rfl
theorem getB_ok (s : Sl) (i : Int) : (getB s i).1.Ok := by
  have z : blkZ.Ok := ⟨by show 0 < 256; omega, by show 0 < 4294967296; omega, by show 0 < 4294967296; omega, by show 0 < 4294967296; omega⟩
  unfold getB
  split
  · exact z
  · unfold readB
    split
    · exact z
    · split
      · exact z
      · split
        · exact z
        · exact ofB_ok _
def LdRel (s : Sl) (w : World) (z : Nat) (fv iv : Value) (wr : World) : Prop :=
  ∃ (k : Nat) (best : Option RootD), iv = .int .i64 (k : Int) ∧ k ≤ 2 ∧ fv = .bool best.isSome ∧ Blk wr z [.int .u32 0, .int .u32 0, .int .u32 0, .int .u8 0] 134 ∧ Blk wr (z + 1) (rootV (best.getD rootZ)) 134 ∧ Below w.heap.size w wr ∧ LdAt s k best ∧ (∀ r, best = some r → r.Ok)
theorem ob_1 {w : World} {B : Nat} {a : Option Addr} {n c : Nat} {p : List UInt8} (h : OB w B 5 (.slice a n c) p) (hp : p.length = 1) : ∃ b, a = some ⟨b, 0, none⟩ ∧ w.cell? ⟨b, 0, none⟩ = some (.int .u8 ((p.getD 0 0).toNat : Int)) := by
  obtain ⟨a', c', e, hbs, hof⟩ := h.bs
  simp only [Value.slice.injEq] at e
  obtain ⟨rfl, _, rfl⟩ := e
  obtain ⟨b, off, rfl, _⟩ := CS.at hbs (by simp [hp])
  obtain ⟨h1, _, h3, h4⟩ := hof _ rfl
  dsimp only at h1
  subst h1
  exact ⟨b, rfl, bs_cell hbs 0 (by omega)⟩
theorem isRoot_no {x : BlkD} {e : Nat} {i : Nat} (h : e ≠ 0 ∨ x.kind ≠ 1 ∨ x.data.length ≠ 1 ∨ 1 < (x.data.getD 0 0).toNat ∨ x.a % 2 ≠ i) : isRoot (x, e) i = false := by
  unfold isRoot
  dsimp only
  rcases h with h | h | h | h | h
  · simp [h]
  · simp [h]
  · simp [h]
  · have : ¬ ((x.data.getD 0 0).toNat ≤ 1) := by omega
    rw [decide_eq_false this]; simp
  · rw [decide_eq_false h]; simp
theorem isRoot_yes {x : BlkD} {i : Nat} (h1 : x.kind = 1) (h2 : x.data.length = 1) (h3 : (x.data.getD 0 0).toNat ≤ 1) (h4 : x.a % 2 = i) : isRoot (x, 0) i = true := by
  unfold isRoot
  dsimp only
  rw [decide_eq_true h1, decide_eq_true h2, decide_eq_true h3, decide_eq_true h4]
  rfl
theorem stepR_no {s : Sl} {i : Nat} {best : Option RootD} (h : isRoot (getB s i) i = false) : stepR s i best = best := by
  unfold stepR; rw [h]; rfl

set_option maxRecDepth 100000 in
set_option maxHeartbeats 4000000 in
theorem load_calls (w : World) (B g d : Nat) (wv : Value) (s : Sl) (h : IsSlab w B g d wv s) (hq : Laid w) :
    Calls Tryd.prog 68 #[.pointer (some ⟨g, 0, none⟩)] w (LoadTo w (loadB s)) := by
  have H := hid h
  have HQ := hid hq
  clear h hq
  have hb1 := below_alloc w (.cells #[.int .u32 0, .int .u32 0, .int .u32 0, .int .u8 0] 134)
  have hb2 := below_alloc (w.alloc (.cells #[.int .u32 0, .int .u32 0, .int .u32 0, .int .u8 0] 134)) (.cells #[.int .u32 0, .int .u32 0, .int .u32 0, .int .u8 0] 134)
  obtain ⟨z, hz⟩ : ∃ z, w.heap.size = z := ⟨_, rfl⟩
  have hs1 : (w.alloc (.cells #[.int .u32 0, .int .u32 0, .int .u32 0, .int .u8 0] 134)).heap.size = z + 1 := by rw [← hz]; simp
  have X0 := hid (show LdRel s w z (.bool false) (.int .i64 0) ((w.alloc (.cells #[.int .u32 0, .int .u32 0, .int .u32 0, .int .u8 0] 134)).alloc (.cells #[.int .u32 0, .int .u32 0, .int .u32 0, .int .u8 0] 134)) from
    ⟨0, none, rfl, by omega, rfl, by rw [← hz]; exact (blk_alloc w [.int .u32 0, .int .u32 0, .int .u32 0, .int .u8 0] 134).below hb2, by rw [← hs1]; exact blk_alloc _ [.int .u32 0, .int .u32 0, .int .u32 0, .int .u8 0] 134, below_step hb1 hb2, rfl, by simp⟩)
  have Hz := hid hz
  clear hb1 hb2 hs1
  go_enter Tryd.func68, Tryd.ntmps68
  go_wp2_with fail
  clear hz
  go_loopw [5, 10] (fun fv iv wr => LdRel s w z fv iv wr) (fun _ iv _ => 2 - (intOf iv).toNat)
  case atStart => exact X0.out
  case round =>
    obtain ⟨k, best, rfl, hk, rfl, hzb, hz4, hbb, hat, hok⟩ := hrel
    have ZB0 := hid hzb
    have Z40 := hid hz4
    have BB0 := hid hbb
    have LA := hid hat
    have OKB := hid hok
    clear hzb hz4 hbb hat hok X0
    obtain ⟨w1, hw1⟩ : ∃ w1 : World, w1 = wr := ⟨_, rfl⟩
    by_cases hk2 : k < 2
    case' pos =>
      have hk2' : (k : Int) < 2 := by omega
      obtain ⟨rr, hrr⟩ : ∃ rr, (readL s (k : Int)).2 = rr := ⟨_, rfl⟩
      obtain ⟨p, hp⟩ : ∃ p, (readL s (k : Int)).1 = p := ⟨_, rfl⟩
      obtain ⟨X, hX⟩ : ∃ X, getB s (k : Int) = X := ⟨_, rfl⟩
      have HR := hid hrr
      have HX := hid hX
      have HXe := hid (show X.2 = if rr ≠ 0 then rr else (readB p).2 from by rw [← hX]; unfold getB; rw [hrr, hp]; split <;> rfl)
      have XO := hid (show X.1.Ok from by rw [← hX]; exact getB_ok s k)
      have hC := bget_calls wr B g d wv s (k : Int) (H.out.below BB0.out) (by omega) (HQ.out.below BB0.out HQ.out.1)
      rw [hX] at hC
      have HC := hid hC
      have hre := readL_err s (k : Int)
      rw [hrr] at hre
      have HRE := hid hre
      clear hC hrr hp hX hre hw1
      go_upto_region 6 with fail
      obtain ⟨x, ev⟩ := X
      dsimp only at HXe XO
      go_upto_region 7 with (first | (first | (refine wpListQ_alloc (o := ⟨some 7, _, _, _, _, _⟩) 96 rfl rfl zblk 5 info_blk ?_) | (refine wpListQ_store_new (o := ⟨none, _, 0, _, _, _⟩) rfl 96 (.tmp 7) (.tmp 17) rfl zblk #[.int .u8 (x.kind : Int), .int .u32 (x.epoch : Int), .int .u32 (x.a : Int), .int .u32 (x.b : Int), .slice a n c] rfl rfl size_blk rfl (all_oneCell_toArray (by intro u hu; simp only [List.mem_cons, List.not_mem_nil, or_false] at hu; rcases hu with rfl | rfl | rfl | rfl | rfl <;> rfl)) ?_)) | (go_at_call 47; refine HC.out.mono ?_; rintro e w2 ⟨a, n, c, rfl, hn, hO, hb⟩; dsimp only at hn hO; dsimp only; have HN := hid hn; have HO := hid hO; have HB := hid hb; clear hn hO hb))
      have hB3 := HB.out.trans ((below_alloc w2 (.cells #[.int .u8 (x.kind : Int), .int .u32 (x.epoch : Int), .int .u32 (x.a : Int), .int .u32 (x.b : Int), .slice a n c] 96)).mono HB.out.size)
      have ZB := hid (ZB0.out.below hB3)
      have Z4 := hid (Z40.out.below hB3)
      have BB := hid (BB0.out.trans (hB3.mono BB0.out.size))
      have hO3 := HO.out.below (below_alloc w2 (.cells #[.int .u8 (x.kind : Int), .int .u32 (x.epoch : Int), .int .u32 (x.a : Int), .int .u32 (x.b : Int), .slice a n c] 96))
      have QB0 := blk_alloc w2 [.int .u8 (x.kind : Int), .int .u32 (x.epoch : Int), .int .u32 (x.a : Int), .int .u32 (x.b : Int), .slice a n c] 96
      have OB3 := hid hO3
      generalize (w2.alloc (.cells #[.int .u8 (x.kind : Int), .int .u32 (x.epoch : Int), .int .u32 (x.a : Int), .int .u32 (x.b : Int), .slice a n c] 96)) = w3 at ZB Z4 BB OB3 QB0 hB3 ⊢
      obtain ⟨q, hq⟩ : ∃ q, w2.heap.size = q := ⟨_, rfl⟩
      rw [hq] at QB0 ⊢
      have QB := hid QB0
      clear hB3 hO3 HO HB QB0 hq HC ZB0 Z40 BB0
      by_cases h0 : rr = 0
      case' neg =>
        have hev : ev = rr := by have := HXe.out; rw [if_pos h0] at this; exact this
        subst hev
        have hre := HRE.out
        have e0 : ((ev : Int) == 0) = false := by simp; omega
        have e6 : ((ev : Int) == 6) = false := by simp; omega
        have e5 : ((ev : Int) == 5) = false := by simp; omega
        have e4 : ((ev : Int) == 4) = false := by simp; omega
        have FIN := hid (LA.out.bad hk2 (by rw [HR.out]; exact h0))
        rw [HR.out] at FIN
        clear h0 hre
        go_upto_region 8 with fail
        repeat (first | (refine wpList_store_blk (o := ⟨none, _, 0, _, _, _⟩) 134 (.tmp 2) (.tmp 20) rfl rfl z [.int .u32 0, .int .u32 0, .int .u32 0, .int .u8 0] [.int .u32 0, .int .u32 0, .int .u32 0, .int .u8 0] 134 rfl rfl ZB.out rfl (by kernel_rfl) (by simp [Value.oneCell']) ?_; intro wE hZE hCE) | go_step)
        refine bodyPost_ret (v := .tuple #[.agg [.int .u32 0, .int .u32 0, .int .u32 0, .int .u8 0].toArray, .int .i64 (ev : Int)]) (results_blk2 (fn := Tryd.f68) (p := 2) (q := 3) (ty := 134) rfl _ z [.int .u32 0, .int .u32 0, .int .u32 0, .int .u8 0] 134 (.int .i64 (ev : Int)) rfl rfl hZE ⟨_, Tryd.underlying134, rfl⟩ (by kernel_rfl)) rfl ?_
        rw [FIN.out]
        exact ⟨rfl, BB.out.trans (hCE.below BB.out.size (by simp; exact Nat.le_of_eq Hz.out))⟩
      have RZ := hid (show (readL s (k : Int)).2 = 0 from HR.out.trans h0)
      have hev : ev = (readB p).2 := by have := HXe.out; rw [if_neg (by simp [h0])] at this; exact this
      have hbe := readB_err p
      rw [← hev] at hbe
      clear hev h0 HXe HRE HR
      by_cases hev : ev = 0
      case' neg =>
        have HE := hid hev
        have en : ((ev : Int) != 0) = true := by simp; exact hev
        have hee : ev = 6 ∨ ev = 5 ∨ ev = 4 := by omega
        clear hbe hev
        rcases hee with rfl | rfl | rfl
        all_goals
          go_wp2_with fail
          have hst := stepR_no (best := best) (show isRoot (getB s (k : Int)) k = false from by rw [HX.out]; exact isRoot_no (.inl HE.out))
          have R : LdRel s w z (.bool best.isSome) (.int .i64 ((k : Int) + 1)) w3 := ⟨k + 1, best, by go_num, by omega, rfl, ZB.out, Z4.out, BB.out, by have := LA.out.step (by omega) RZ.out; rwa [hst] at this, OKB.out⟩
          refine ⟨?_, by simp [intOf]; omega⟩
          first | exact R | ((repeat apply Exists.intro); refine ⟨R, ?_⟩; and_intros <;> rfl)
      subst hev
      clear hbe
      have xo := XO.out.kind
      have xa := XO.out.a
      have xe := XO.out.epoch
      have xb := XO.out.b
      have k1 : (x.kind : Int) ≤ 255 := by omega
      have k2 : (x.a : Int) ≤ 4294967295 := by omega
      have k3 : (n : Int) ≤ 9223372036854775807 := by have := OB3.out.bsN.max'; have := HN.out; omega
      have q0 := QB.out.get 0 rfl
      have q1 := QB.out.get 1 rfl
      have q2 := QB.out.get 2 rfl
      have q3 := QB.out.get 3 rfl
      have q4 := QB.out.get 4 rfl
      clear xo xa xe xb
      by_cases hkd : x.kind = 1
      case' neg =>
        have e1 : ((x.kind : Int) != 1) = true := by simp; omega
        have HE := hid hkd
        clear hkd
        go_wp2_with fail
        have hst := stepR_no (best := best) (show isRoot (getB s (k : Int)) k = false from by rw [HX.out]; exact isRoot_no (.inr (.inl HE.out)))
        have R : LdRel s w z (.bool best.isSome) (.int .i64 ((k : Int) + 1)) w3 := ⟨k + 1, best, by go_num, by omega, rfl, ZB.out, Z4.out, BB.out, by have := LA.out.step (by omega) RZ.out; rwa [hst] at this, OKB.out⟩
        refine ⟨?_, by simp [intOf]; omega⟩
        first | exact R | ((repeat apply Exists.intro); refine ⟨R, ?_⟩; and_intros <;> rfl)
      have e1 : ((x.kind : Int) != 1) = false := by simp; omega
      have HK1 := hid hkd
      clear hkd
      by_cases hln : n = 1
      case' neg =>
        have e2 : ((n : Int) != 1) = true := by simp; omega
        have HE := hid hln
        clear hln
        go_wp2_with fail
        have hst := stepR_no (best := best) (show isRoot (getB s (k : Int)) k = false from by rw [HX.out]; exact isRoot_no (.inr (.inr (.inl (by rw [HN.out]; exact HE.out)))))
        have R : LdRel s w z (.bool best.isSome) (.int .i64 ((k : Int) + 1)) w3 := ⟨k + 1, best, by go_num, by omega, rfl, ZB.out, Z4.out, BB.out, by have := LA.out.step (by omega) RZ.out; rwa [hst] at this, OKB.out⟩
        refine ⟨?_, by simp [intOf]; omega⟩
        first | exact R | ((repeat apply Exists.intro); refine ⟨R, ?_⟩; and_intros <;> rfl)
      subst hln
      obtain ⟨bq, rfl, hcell⟩ := ob_1 OB3.out HN.out
      obtain ⟨v, hv⟩ : ∃ v, (x.data.getD 0 0).toNat = v := ⟨_, rfl⟩
      have k4 : (v : Int) ≤ 255 := by have := (x.data.getD 0 0).toNat_lt; omega
      rw [hv] at hcell
      have HV := hid hv
      clear hv
      by_cases hvv : 1 < v
      case' pos =>
        have e3 : (1 : Int) < (v : Int) := by omega
        have HE := hid hvv
        clear hvv
        go_wp2_with fail
        have hst := stepR_no (best := best) (show isRoot (getB s (k : Int)) k = false from by rw [HX.out]; exact isRoot_no (.inr (.inr (.inr (.inl (by rw [HV.out]; exact HE.out))))))
        have R : LdRel s w z (.bool best.isSome) (.int .i64 ((k : Int) + 1)) w3 := ⟨k + 1, best, by go_num, by omega, rfl, ZB.out, Z4.out, BB.out, by have := LA.out.step (by omega) RZ.out; rwa [hst] at this, OKB.out⟩
        refine ⟨?_, by simp [intOf]; omega⟩
        first | exact R | ((repeat apply Exists.intro); refine ⟨R, ?_⟩; and_intros <;> rfl)
      have e3 : ¬ ((1 : Int) < (v : Int)) := by omega
      have HVV := hid (show v ≤ 1 from by omega)
      clear hvv
      by_cases ham : x.a % 2 = k
      case' neg =>
        have e4 : ((x.a : Int) % 2 != (k : Int)) = true := by simp; omega
        have HE := hid ham
        clear ham
        go_wp2_with fail
        have hst := stepR_no (best := best) (show isRoot (getB s (k : Int)) k = false from by rw [HX.out]; exact isRoot_no (.inr (.inr (.inr (.inr HE.out)))))
        have R : LdRel s w z (.bool best.isSome) (.int .i64 ((k : Int) + 1)) w3 := ⟨k + 1, best, by go_num, by omega, rfl, ZB.out, Z4.out, BB.out, by have := LA.out.step (by omega) RZ.out; rwa [hst] at this, OKB.out⟩
        refine ⟨?_, by simp [intOf]; omega⟩
        first | exact R | ((repeat apply Exists.intro); refine ⟨R, ?_⟩; and_intros <;> rfl)
      have e4 : ((x.a : Int) % 2 != (k : Int)) = false := by simp; omega
      have HAM := hid ham
      clear ham
      have hql := QB.out.lt
      have hbl := World.block_lt_of_cell? w3 ⟨bq, 0, none⟩ hcell
      dsimp only at hbl
      go_upto_region 16 with fail
      go_region
      have hB4 := hid ((below_alloc w3 (.cells [.int .u32 (x.a : Int), .int .u32 (x.epoch : Int), .int .u32 (x.b : Int), .int .u8 (v : Int)].toArray 134)).trans ((below_drew (w3.alloc (.cells [.int .u32 (x.a : Int), .int .u32 (x.epoch : Int), .int .u32 (x.b : Int), .int .u8 (v : Int)].toArray 134))).mono (below_alloc w3 (.cells [.int .u32 (x.a : Int), .int .u32 (x.epoch : Int), .int .u32 (x.b : Int), .int .u8 (v : Int)].toArray 134)).size))
      have RB0 := (blk_alloc w3 [.int .u32 (x.a : Int), .int .u32 (x.epoch : Int), .int .u32 (x.b : Int), .int .u8 (v : Int)] 134).below (below_drew _)
      clear q0 q1 q2 q3 q4 hcell hbl hql
      generalize (w3.alloc (.cells [.int .u32 (x.a : Int), .int .u32 (x.epoch : Int), .int .u32 (x.b : Int), .int .u8 (v : Int)].toArray 134)).drew = w4 at hB4 RB0 ⊢
      obtain ⟨rq, hrq⟩ : ∃ rq, w3.heap.size = rq := ⟨_, rfl⟩
      rw [hrq] at RB0 ⊢
      have RB := hid RB0
      replace ZB := hid (ZB.out.below hB4.out)
      replace Z4 := hid (Z4.out.below hB4.out)
      replace BB := hid (BB.out.trans (hB4.out.mono BB.out.size))
      clear RB0 hrq hB4 OB3 QB
      have g0 := RB.out.get 0 rfl
      have hroot := hid (show isRoot (getB s (k : Int)) k = true from by rw [HX.out]; exact isRoot_yes HK1.out HN.out (by rw [HV.out]; exact HVV.out) HAM.out)
      rcases best with _ | r0
      · have hst : stepR s k none = some (rootOf x) := by unfold stepR; rw [hroot.out, HX.out]; rfl
        have HST := hid hst
        clear hst
        go_upto_region 18 with fail
        repeat (first | (refine wpList_load_blk (o := ⟨some 78, _, _, _, _, _⟩) 134 (.tmp 9) rfl rfl rq [.int .u32 (x.a : Int), .int .u32 (x.epoch : Int), .int .u32 (x.b : Int), .int .u8 (v : Int)] 134 rfl RB.out ⟨_, Tryd.underlying134, rfl⟩ size_root ?_) | (refine wpList_store_blk (o := ⟨none, _, 0, _, _, _⟩) 134 (.tmp 4) (.tmp 78) rfl rfl (z + 1) (rootV ((none : Option RootD).getD rootZ)) [.int .u32 (x.a : Int), .int .u32 (x.epoch : Int), .int .u32 (x.b : Int), .int .u8 (v : Int)] 134 rfl rfl Z4.out rfl size_root (by simp [Value.oneCell']) ?_; intro w5 hZ5 hC5; have Z5 := hid hZ5; have C5 := hid hC5; clear hZ5 hC5) | go_step)
        have hst := HST.out
        have ZB5 := ZB.out.keep C5.out (by simp)
        have BB5 := BB.out.trans (C5.out.below BB.out.size (by simp; have := Hz.out; omega))
        have R : LdRel s w z (.bool true) (.int .i64 ((k : Int) + 1)) w5 := ⟨k + 1, some (rootOf x), by go_num, by omega, rfl, ZB5, by show Blk w5 (z + 1) [.int .u32 (x.a : Int), .int .u32 (x.epoch : Int), .int .u32 (x.b : Int), .int .u8 (((x.data.getD 0 0).toNat : Nat) : Int)] _; rw [HV.out]; exact Z5.out, BB5, by have := LA.out.step (by omega) RZ.out; rwa [hst] at this, fun r hr => by cases hr; exact ⟨XO.out.a, XO.out.epoch, XO.out.b, (x.data.getD 0 0).toNat_lt⟩⟩
        refine ⟨?_, by simp [intOf]; omega⟩
        first | exact R | ((repeat apply Exists.intro); refine ⟨R, ?_⟩; and_intros <;> rfl)
      have g1 := Z4.out.get 0 (v := .int .u32 (r0.turn : Int)) rfl
      by_cases hlt : r0.turn < x.a
      case' pos =>
        have hlt' : (r0.turn : Int) < (x.a : Int) := by omega
        have HST := hid (show stepR s k (some r0) = some (rootOf x) from by unfold stepR; rw [hroot.out, HX.out]; dsimp only; rw [if_pos hlt]; rfl)
        clear hlt
        go_upto_region 18 with fail
        repeat (first | (refine wpList_load_blk (o := ⟨some 78, _, _, _, _, _⟩) 134 (.tmp 9) rfl rfl rq [.int .u32 (x.a : Int), .int .u32 (x.epoch : Int), .int .u32 (x.b : Int), .int .u8 (v : Int)] 134 rfl RB.out ⟨_, Tryd.underlying134, rfl⟩ size_root ?_) | (refine wpList_store_blk (o := ⟨none, _, 0, _, _, _⟩) 134 (.tmp 4) (.tmp 78) rfl rfl (z + 1) (rootV ((some r0).getD rootZ)) [.int .u32 (x.a : Int), .int .u32 (x.epoch : Int), .int .u32 (x.b : Int), .int .u8 (v : Int)] 134 rfl rfl Z4.out rfl size_root (by simp [Value.oneCell']) ?_; intro w5 hZ5 hC5; have Z5 := hid hZ5; have C5 := hid hC5; clear hZ5 hC5) | go_step)
        have hst := HST.out
        have ZB5 := ZB.out.keep C5.out (by simp)
        have BB5 := BB.out.trans (C5.out.below BB.out.size (by simp; have := Hz.out; omega))
        have R : LdRel s w z (.bool true) (.int .i64 ((k : Int) + 1)) w5 := ⟨k + 1, some (rootOf x), by go_num, by omega, rfl, ZB5, by show Blk w5 (z + 1) [.int .u32 (x.a : Int), .int .u32 (x.epoch : Int), .int .u32 (x.b : Int), .int .u8 (((x.data.getD 0 0).toNat : Nat) : Int)] _; rw [HV.out]; exact Z5.out, BB5, by have := LA.out.step (by omega) RZ.out; rwa [hst] at this, fun r hr => by cases hr; exact ⟨XO.out.a, XO.out.epoch, XO.out.b, (x.data.getD 0 0).toNat_lt⟩⟩
        refine ⟨?_, by simp [intOf]; omega⟩
        first | exact R | ((repeat apply Exists.intro); refine ⟨R, ?_⟩; and_intros <;> rfl)
      have hlt' : ¬ ((r0.turn : Int) < (x.a : Int)) := by omega
      have HST := hid (show stepR s k (some r0) = some r0 from by unfold stepR; rw [hroot.out, HX.out]; dsimp only; rw [if_neg hlt]; rfl)
      clear hlt
      go_wp2_with fail
      have hst := HST.out
      have R : LdRel s w z (.bool (some r0).isSome) (.int .i64 ((k : Int) + 1)) w4 := ⟨k + 1, some r0, by go_num, by omega, rfl, ZB.out, Z4.out, BB.out, by have := LA.out.step (by omega) RZ.out; rwa [hst] at this, OKB.out⟩
      refine ⟨?_, by simp [intOf]; omega⟩
      first | exact R | ((repeat apply Exists.intro); refine ⟨R, ?_⟩; and_intros <;> rfl)
    case' neg =>
      obtain rfl : k = 2 := by omega
      have FIN := hid LA.out.last
      have ZB := ZB0
      have BB := BB0
      clear hw1
      rcases best with _ | r0
      · go_upto_region 21 with fail
        go_step
        repeat (first | (refine wpList_store_blk (o := ⟨none, _, 0, _, _, _⟩) 134 (.tmp 2) (.tmp 82) rfl rfl z [.int .u32 0, .int .u32 0, .int .u32 0, .int .u8 0] [.int .u32 0, .int .u32 0, .int .u32 0, .int .u8 0] 134 rfl rfl ZB.out rfl (by kernel_rfl) (by simp [Value.oneCell']) ?_; intro wE hZE hCE) | go_step)
        refine bodyPost_ret (v := .tuple #[.agg [.int .u32 0, .int .u32 0, .int .u32 0, .int .u8 0].toArray, .int .i64 4]) (results_blk2 (fn := Tryd.f68) (p := 2) (q := 3) (ty := 134) rfl _ z [.int .u32 0, .int .u32 0, .int .u32 0, .int .u8 0] 134 (.int .i64 4) rfl rfl hZE ⟨_, Tryd.underlying134, rfl⟩ (by kernel_rfl)) rfl ?_
        rw [FIN.out]
        exact ⟨rfl, BB.out.trans (hCE.below BB.out.size (by simp; exact Nat.le_of_eq Hz.out))⟩
      repeat (first | (refine wpList_load_blk (o := ⟨some 83, _, _, _, _, _⟩) 134 (.tmp 4) rfl rfl (z + 1) (rootV r0) 134 rfl Z40.out ⟨_, Tryd.underlying134, rfl⟩ size_root ?_) | (refine wpList_store_blk (o := ⟨none, _, 0, _, _, _⟩) 134 (.tmp 2) (.tmp 83) rfl rfl z [.int .u32 0, .int .u32 0, .int .u32 0, .int .u8 0] (rootV r0) 134 rfl rfl ZB.out rfl size_root (by simp [rootV, Value.oneCell']) ?_; intro wE hZE hCE) | go_step)
      refine bodyPost_ret (v := .tuple #[.agg (rootV r0).toArray, .int .i64 0]) (results_blk2 (fn := Tryd.f68) (p := 2) (q := 3) (ty := 134) rfl _ z (rootV r0) 134 (.int .i64 0) rfl rfl hZE ⟨_, Tryd.underlying134, rfl⟩ (by kernel_rfl)) rfl ?_
      rw [FIN.out]
      exact ⟨rfl, BB.out.trans (hCE.below BB.out.size (by simp; exact Nat.le_of_eq Hz.out))⟩

def LdNil (w : World) (z : Nat) (fv iv : Value) (wr : World) : Prop :=
  iv = .int .i64 0 ∧ fv = .bool false ∧ Blk wr z [.int .u32 0, .int .u32 0, .int .u32 0, .int .u8 0] 134 ∧ Below w.heap.size w wr
set_option maxRecDepth 100000 in
set_option maxHeartbeats 4000000 in
theorem nilload_calls (w : World) : Calls Tryd.prog 68 #[.pointer none] w (LoadTo w (rootZ, 6)) := by
  have hb1 := below_alloc w (.cells #[.int .u32 0, .int .u32 0, .int .u32 0, .int .u8 0] 134)
  have hb2 := below_alloc (w.alloc (.cells #[.int .u32 0, .int .u32 0, .int .u32 0, .int .u8 0] 134)) (.cells #[.int .u32 0, .int .u32 0, .int .u32 0, .int .u8 0] 134)
  obtain ⟨z, hz⟩ : ∃ z, w.heap.size = z := ⟨_, rfl⟩
  have X0 := hid (show LdNil w z (.bool false) (.int .i64 0) ((w.alloc (.cells #[.int .u32 0, .int .u32 0, .int .u32 0, .int .u8 0] 134)).alloc (.cells #[.int .u32 0, .int .u32 0, .int .u32 0, .int .u8 0] 134)) from
    ⟨rfl, rfl, by rw [← hz]; exact (blk_alloc w [.int .u32 0, .int .u32 0, .int .u32 0, .int .u8 0] 134).below hb2, below_step hb1 hb2⟩)
  have Hz := hid hz
  clear hb1 hb2
  go_enter Tryd.func68, Tryd.ntmps68
  go_wp2_with fail
  clear hz
  go_loopw [5, 10] (fun fv iv wr => LdNil w z fv iv wr) (fun _ iv _ => 2 - (intOf iv).toNat)
  case atStart => exact X0.out
  case round =>
    obtain ⟨rfl, rfl, hzb, hbb⟩ := hrel
    have ZB0 := hid hzb
    have BB0 := hid hbb
    clear hzb hbb X0
    go_upto_region 14 with (first | (first | (refine wpListQ_alloc (o := ⟨some 7, _, _, _, _, _⟩) 96 rfl rfl zblk 5 info_blk ?_) | (refine wpListQ_store_new (o := ⟨none, _, 0, _, _, _⟩) rfl 96 (.tmp 7) (.tmp 17) rfl zblk #[.int .u8 0, .int .u32 0, .int .u32 0, .int .u32 0, .slice a n c] rfl rfl size_blk rfl (all_oneCell_toArray (by intro u hu; simp only [List.mem_cons, List.not_mem_nil, or_false] at hu; rcases hu with rfl | rfl | rfl | rfl | rfl <;> rfl)) ?_)) | (go_at_call 47; refine (nilbget_calls wr _).mono ?_; rintro e w2 ⟨a, n, c, rfl, hn, hO, hb⟩; dsimp only at hn hO; dsimp only [blkZ]; have HB := hid hb; clear hn hO hb))
    have hB3 := HB.out.trans ((below_alloc w2 (.cells #[.int .u8 0, .int .u32 0, .int .u32 0, .int .u32 0, .slice a n c] 96)).mono HB.out.size)
    have ZB := hid (ZB0.out.below hB3)
    have BB := hid (BB0.out.trans (hB3.mono BB0.out.size))
    generalize (w2.alloc (.cells #[.int .u8 0, .int .u32 0, .int .u32 0, .int .u32 0, .slice a n c] 96)) = w3 at ZB BB hB3 ⊢
    clear hB3 HB
    repeat (first | (refine wpList_store_blk (o := ⟨none, _, 0, _, _, _⟩) 134 (.tmp 2) (.tmp 29) rfl rfl z [.int .u32 0, .int .u32 0, .int .u32 0, .int .u8 0] [.int .u32 0, .int .u32 0, .int .u32 0, .int .u8 0] 134 rfl rfl ZB.out rfl (by kernel_rfl) (by simp [Value.oneCell']) ?_; intro wE hZE hCE) | go_step)
    refine bodyPost_ret (v := .tuple #[.agg [.int .u32 0, .int .u32 0, .int .u32 0, .int .u8 0].toArray, .int .i64 6]) (results_blk2 (fn := Tryd.f68) (p := 2) (q := 3) (ty := 134) rfl _ z [.int .u32 0, .int .u32 0, .int .u32 0, .int .u8 0] 134 (.int .i64 6) rfl rfl hZE ⟨_, Tryd.underlying134, rfl⟩ (by kernel_rfl)) rfl ?_
    rw [show ((rootZ, 6) : RootD × Nat) = (rootZ, 6) from rfl]
    exact ⟨rfl, BB.out.trans (hCE.below BB.out.size (by simp; exact Nat.le_of_eq Hz.out))⟩
end Go.Proofs.YtoapibbbooongaaDoor
