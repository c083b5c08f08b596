/- The walks of layer 6: the document gets a block, and loads the root. -/
import Derived.Test.YtoapibbbooongaaDoorBlkI
namespace Go.Proofs.YtoapibbbooongaaDoor
open Go.RowKit Go.Quad _root_.Quad _root_.Quad.Slab

set_option maxRecDepth 100000 in
set_option maxHeartbeats 2000000 in
theorem rbget_calls (w : World) (Fp : Nat → Prop) (B g dn dc : Nat) (wv : Value) (s : Sl) (i : Int) (h : IsRf w Fp B g dn dc wv s) (hi : -9223372036854775808 ≤ i ∧ i ≤ 9223372036854775807) :
    Calls Tryd.prog 92 #[.pointer (some ⟨g, 0, none⟩), .int .i64 i] w (BGetTo w (getB s i)) := by
  have HR := hid (fun W hW => rget_any W Fp B g dn dc wv s i (h.below hW) hi)
  have HOK := hid h.ok
  obtain ⟨z, hz⟩ : ∃ z, w.heap.size = z := ⟨_, rfl⟩
  have HZ := hid (show Blk (w.alloc (.cells #[.int .u8 0, .int .u32 0, .int .u32 0, .int .u32 0, .slice none 0 0] 167)) z [.int .u8 0, .int .u32 0, .int .u32 0, .int .u32 0, .slice none 0 0] 167 from by rw [← hz]; exact blk_alloc w [.int .u8 0, .int .u32 0, .int .u32 0, .int .u32 0, .slice none 0 0] 167)
  have Hz := hid hz
  have H0 := hid (below_alloc w (.cells #[.int .u8 0, .int .u32 0, .int .u32 0, .int .u32 0, .slice none 0 0] 167))
  have HS1 := hid (show (w.alloc (.cells #[.int .u8 0, .int .u32 0, .int .u32 0, .int .u32 0, .slice none 0 0] 167)).heap.size = z + 1 from by rw [← hz]; simp)
  obtain ⟨rr, hrr⟩ : ∃ rr, (readL s i).2 = rr := ⟨_, rfl⟩
  obtain ⟨p, hp⟩ : ∃ p, (readL s i).1 = p := ⟨_, rfl⟩
  have Hr := hid hrr
  have Hp := hid hp
  clear h hrr hp
  go_enter Tryd.func92, Tryd.ntmps92
  go_wp2_with fail
  refine (HR.out _ H0.out).mono ?_
  rintro e w1 ⟨v9, rfl, ho, hb1⟩
  have BB := hid (H0.out.trans (hb1.mono H0.out.size))
  have ZB := hid (HZ.out.below hb1)
  rw [Hr.out]
  rw [Hp.out, HS1.out] at ho
  have HO := hid ho
  have HB1 := hid hb1
  clear hb1 ho HZ H0 HR hz
  by_cases h0 : rr = 0
  case' neg =>
    have h0' : ((rr : Int) != 0) = true := by simp; omega
    have HG := hid (show getB s i = (blkZ, rr) from by unfold getB; rw [Hr.out, if_pos h0])
    go_upto_region 3 with fail
    go_step
    repeat (first | (refine wpList_store_blk (o := ⟨none, _, 0, _, _, _⟩) 167 (.tmp 4) (.tmp 16) rfl rfl z [.int .u8 0, .int .u32 0, .int .u32 0, .int .u32 0, .slice none 0 0] [.int .u8 0, .int .u32 0, .int .u32 0, .int .u32 0, .slice none 0 0] 167 rfl rfl ZB.out rfl (by kernel_rfl) (by simp [Value.oneCell']) ?_; intro wE hZE hCE) | go_step)
    refine bodyPost_ret (v := .tuple #[.agg [.int .u8 0, .int .u32 0, .int .u32 0, .int .u32 0, .slice none 0 0].toArray, .int .i64 (rr : Int)]) (results_blk2 (fn := Tryd.f92) (p := 4) (q := 5) (ty := 167) rfl _ z [.int .u8 0, .int .u32 0, .int .u32 0, .int .u32 0, .slice none 0 0] 167 (.int .i64 (rr : Int)) rfl rfl hZE ⟨_, Tryd.underlying167, rfl⟩ (by kernel_rfl)) rfl ?_
    exact bget_no (BB.out.trans (hCE.below BB.out.size (by simp; exact Nat.le_of_eq Hz.out))) HG.out
  subst h0
  have PL := hid (show p.length = 128 from by rw [← Hp.out]; exact readL_len HOK.out Hr.out)
  obtain ⟨X, hX⟩ : ∃ X, getB s i = X := ⟨_, rfl⟩
  have HG := hid (show readB p = X from by rw [← hX]; unfold getB; rw [Hr.out, Hp.out]; rfl)
  have HXX := hid hX
  clear hX
  obtain ⟨b, c9, e9, hbs, hzb, hbl, hc9⟩ := ob_128 HO.out PL.out
  subst e9
  have HC := hid (rread_calls w1 b c9 p hbs PL.out hc9)
  rw [HG.out] at HC
  clear hbs hzb hbl hc9 HO
  obtain ⟨x, ev⟩ := X
  go_wp2_with (first | (go_at_call 109; refine HC.out.mono ?_; rintro e w2 ⟨a, n, c, rfl, hn, hO, hb⟩; dsimp only at hn hO; dsimp only; have HN := hid hn; have HO := hid hO; have HB := hid hb; have Z2 := hid (ZB.out.below hb); clear hn hO hb) | (refine wpList_store_blk (o := ⟨none, _, 0, _, _, _⟩) 167 (.tmp 4) (.tmp 20) rfl rfl z [.int .u8 0, .int .u32 0, .int .u32 0, .int .u32 0, .slice none 0 0] [.int .u8 (x.kind : Int), .int .u32 (x.epoch : Int), .int .u32 (x.a : Int), .int .u32 (x.b : Int), .slice a n c] 167 rfl rfl Z2.out rfl (by kernel_rfl) (by intro u hu; simp only [List.mem_cons, List.not_mem_nil, or_false] at hu; rcases hu with rfl | rfl | rfl | rfl | rfl <;> rfl) ?_; intro wE hZE hCE; have ZE := hid hZE; have CE := hid hCE; clear hZE hCE))
  refine bodyPost_ret (v := .tuple #[.agg [.int .u8 (x.kind : Int), .int .u32 (x.epoch : Int), .int .u32 (x.a : Int), .int .u32 (x.b : Int), .slice a n c].toArray, .int .i64 ev]) (results_blk2 (fn := Tryd.f92) (p := 4) (q := 5) (ty := 167) rfl _ z [.int .u8 (x.kind : Int), .int .u32 (x.epoch : Int), .int .u32 (x.a : Int), .int .u32 (x.b : Int), .slice a n c] 167 (.int .i64 ev) rfl rfl ZE.out ⟨_, Tryd.underlying167, rfl⟩ (by kernel_rfl)) rfl ?_
  have hz1 : z < w1.heap.size := ZB.out.lt
  rw [HXX.out]
  refine ⟨a, n, c, rfl, HN.out, (HO.out.chg CE.out (fun q hq hm => by have := OB.ownBlock HO.out q hq; simp at hm; omega)).base BB.out.size, (BB.out.trans (HB.out.mono BB.out.size)).trans (CE.out.below (Nat.le_trans BB.out.size HB.out.size) (by simp; exact Nat.le_of_eq Hz.out))⟩
set_option maxRecDepth 100000 in
set_option maxHeartbeats 1000000 in
theorem nilrbget_calls (w : World) (i : Int) : Calls Tryd.prog 92 #[.pointer none, .int .i64 i] w (BGetTo w (blkZ, 6)) := by
  obtain ⟨z, hz⟩ : ∃ z, w.heap.size = z := ⟨_, rfl⟩
  have ZB := hid (show Blk (w.alloc (.cells #[.int .u8 0, .int .u32 0, .int .u32 0, .int .u32 0, .slice none 0 0] 167)) z [.int .u8 0, .int .u32 0, .int .u32 0, .int .u32 0, .slice none 0 0] 167 from by rw [← hz]; exact blk_alloc w [.int .u8 0, .int .u32 0, .int .u32 0, .int .u32 0, .slice none 0 0] 167)
  have Hz := hid hz
  have BB := hid (below_alloc w (.cells #[.int .u8 0, .int .u32 0, .int .u32 0, .int .u32 0, .slice none 0 0] 167))
  go_enter Tryd.func92, Tryd.ntmps92
  go_wp2_with fail
  refine (nilrget_calls _ i).mono ?_
  rintro e w1 ⟨rfl, rfl⟩
  clear hz
  go_upto_region 3 with fail
  go_step
  repeat (first | (refine wpList_store_blk (o := ⟨none, _, 0, _, _, _⟩) 167 (.tmp 4) (.tmp 16) rfl rfl z [.int .u8 0, .int .u32 0, .int .u32 0, .int .u32 0, .slice none 0 0] [.int .u8 0, .int .u32 0, .int .u32 0, .int .u32 0, .slice none 0 0] 167 rfl rfl ZB.out rfl (by kernel_rfl) (by simp [Value.oneCell']) ?_; intro wE hZE hCE) | go_step)
  refine bodyPost_ret (v := .tuple #[.agg [.int .u8 0, .int .u32 0, .int .u32 0, .int .u32 0, .slice none 0 0].toArray, .int .i64 6]) (results_blk2 (fn := Tryd.f92) (p := 4) (q := 5) (ty := 167) rfl _ z [.int .u8 0, .int .u32 0, .int .u32 0, .int .u32 0, .slice none 0 0] 167 (.int .i64 6) rfl rfl hZE ⟨_, Tryd.underlying167, rfl⟩ (by kernel_rfl)) rfl ?_
  exact bget_no (BB.out.trans (hCE.below BB.out.size (by simp; exact Nat.le_of_eq Hz.out))) rfl

theorem info_rblk : (Tryd.prog.info? 167).map (fun i => (i.zero, i.size)) = some (some (.agg zblk), 5) := by kernel_rfl
theorem size_rblk : (Tryd.prog.info? 167).map (·.size) = some 5 := by kernel_rfl
theorem size_rroot : (Tryd.prog.info? 141).map (·.size) = some 4 := by kernel_rfl
def RLdRel (s : Sl) (w : World) (z : Nat) (fv iv : Value) (wr : World) : Prop :=
  ∃ (k : Nat) (best : Option RootD), iv = .int .i64 (k : Int) ∧ k ≤ 2 ∧ fv = .bool best.isSome ∧ Blk wr z [.int .u32 0, .int .u32 0, .int .u32 0, .int .u8 0] 141 ∧ Blk wr (z + 1) (rootV (best.getD rootZ)) 141 ∧ Below w.heap.size w wr ∧ LdAt s k best ∧ (∀ r, best = some r → r.Ok)

set_option maxRecDepth 100000 in
set_option maxHeartbeats 4000000 in
theorem rload_calls (w : World) (Fp : Nat → Prop) (B g dn dc : Nat) (wv : Value) (s : Sl) (h : IsRf w Fp B g dn dc wv s) :
    Calls Tryd.prog 72 #[.pointer (some ⟨g, 0, none⟩)] w (LoadTo w (loadB s)) := by
  have H := hid h
  clear h
  have hb1 := below_alloc w (.cells #[.int .u32 0, .int .u32 0, .int .u32 0, .int .u8 0] 141)
  have hb2 := below_alloc (w.alloc (.cells #[.int .u32 0, .int .u32 0, .int .u32 0, .int .u8 0] 141)) (.cells #[.int .u32 0, .int .u32 0, .int .u32 0, .int .u8 0] 141)
  obtain ⟨z, hz⟩ : ∃ z, w.heap.size = z := ⟨_, rfl⟩
  have hs1 : (w.alloc (.cells #[.int .u32 0, .int .u32 0, .int .u32 0, .int .u8 0] 141)).heap.size = z + 1 := by rw [← hz]; simp
  have X0 := hid (show RLdRel s w z (.bool false) (.int .i64 0) ((w.alloc (.cells #[.int .u32 0, .int .u32 0, .int .u32 0, .int .u8 0] 141)).alloc (.cells #[.int .u32 0, .int .u32 0, .int .u32 0, .int .u8 0] 141)) from
    ⟨0, none, rfl, by omega, rfl, by rw [← hz]; exact (blk_alloc w [.int .u32 0, .int .u32 0, .int .u32 0, .int .u8 0] 141).below hb2, by rw [← hs1]; exact blk_alloc _ [.int .u32 0, .int .u32 0, .int .u32 0, .int .u8 0] 141, below_step hb1 hb2, rfl, by simp⟩)
  have Hz := hid hz
  clear hb1 hb2 hs1
  go_enter Tryd.func72, Tryd.ntmps72
  go_wp2_with fail
  clear hz
  go_loopw [5, 11] (fun fv iv wr => RLdRel s w z fv iv wr) (fun _ iv _ => 2 - (intOf iv).toNat)
  case atStart => exact X0.out
  case round =>
    obtain ⟨k, best, rfl, hk, rfl, hzb, hz4, hbb, hat, hok⟩ := hrel
    have ZB0 := hid hzb
    have Z40 := hid hz4
    have BB0 := hid hbb
    have LA := hid hat
    have OKB := hid hok
    clear hzb hz4 hbb hat hok X0
    obtain ⟨w1, hw1⟩ : ∃ w1 : World, w1 = wr := ⟨_, rfl⟩
    by_cases hk2 : k < 2
    case' pos =>
      have hk2' : (k : Int) < 2 := by omega
      obtain ⟨rr, hrr⟩ : ∃ rr, (readL s (k : Int)).2 = rr := ⟨_, rfl⟩
      obtain ⟨p, hp⟩ : ∃ p, (readL s (k : Int)).1 = p := ⟨_, rfl⟩
      obtain ⟨X, hX⟩ : ∃ X, getB s (k : Int) = X := ⟨_, rfl⟩
      have HR := hid hrr
      have HX := hid hX
      have HXe := hid (show X.2 = if rr ≠ 0 then rr else (readB p).2 from by rw [← hX]; unfold getB; rw [hrr, hp]; split <;> rfl)
      have XO := hid (show X.1.Ok from by rw [← hX]; exact getB_ok s k)
      have hA := rget_any wr Fp B g dn dc wv s (k : Int) (H.out.below BB0.out) (by omega)
      rw [hrr] at hA
      have HA := hid hA
      have HC := hid (fun (W : World) (hW : Below wr.heap.size wr W) => rbget_calls W Fp B g dn dc wv s (k : Int) (H.out.below (BB0.out.trans (hW.mono BB0.out.size))) (by omega))
      rw [hX] at HC
      clear hA hrr hp hX hw1
      obtain ⟨x, ev⟩ := X
      dsimp only at HXe XO
      go_upto_region 7 with (go_at_call 97; refine HA.out.mono ?_; rintro e w0 ⟨v0, rfl, ho0, hb0⟩; have ZB := hid (ZB0.out.below hb0); have BB := hid (BB0.out.trans (hb0.mono BB0.out.size)); have B00 := hid hb0; clear ho0 hb0)
      by_cases h0 : rr = 0
      case' neg =>
        have e0 : ((rr : Int) != 0) = true := by simp; omega
        have FIN := hid (LA.out.bad hk2 (by rw [HR.out]; exact h0))
        rw [HR.out] at FIN
        clear h0
        go_upto_region 8 with fail
        repeat (first | (refine wpList_store_blk (o := ⟨none, _, 0, _, _, _⟩) 141 (.tmp 2) (.tmp 22) rfl rfl z [.int .u32 0, .int .u32 0, .int .u32 0, .int .u8 0] [.int .u32 0, .int .u32 0, .int .u32 0, .int .u8 0] 141 rfl rfl ZB.out rfl (by kernel_rfl) (by simp [Value.oneCell']) ?_; intro wE hZE hCE) | go_step)
        refine bodyPost_ret (v := .tuple #[.agg [.int .u32 0, .int .u32 0, .int .u32 0, .int .u8 0].toArray, .int .i64 (rr : Int)]) (results_blk2 (fn := Tryd.f72) (p := 2) (q := 3) (ty := 141) rfl _ z [.int .u32 0, .int .u32 0, .int .u32 0, .int .u8 0] 141 (.int .i64 (rr : Int)) rfl rfl hZE ⟨_, Tryd.underlying141, rfl⟩ (by kernel_rfl)) rfl ?_
        rw [FIN.out]
        exact ⟨rfl, BB.out.trans (hCE.below BB.out.size (by simp; exact Nat.le_of_eq Hz.out))⟩
      have e0 : ((rr : Int) != 0) = false := by simp; omega
      have RZ := hid (show (readL s (k : Int)).2 = 0 from HR.out.trans h0)
      have hev : ev = (readB p).2 := by have := HXe.out; rw [if_neg (by simp [h0])] at this; exact this
      have hbe := readB_err p
      rw [← hev] at hbe
      have HBE := hid hbe
      clear hev h0 HXe HR hbe ZB BB
      go_upto_region 10 with (first | (first | (refine wpListQ_alloc (o := ⟨some 9, _, _, _, _, _⟩) 167 rfl rfl zblk 5 info_rblk ?_) | (refine wpListQ_store_new (o := ⟨none, _, 0, _, _, _⟩) rfl 167 (.tmp 9) (.tmp 28) rfl zblk #[.int .u8 (x.kind : Int), .int .u32 (x.epoch : Int), .int .u32 (x.a : Int), .int .u32 (x.b : Int), .slice a n c] rfl rfl size_rblk rfl (all_oneCell_toArray (by intro u hu; simp only [List.mem_cons, List.not_mem_nil, or_false] at hu; rcases hu with rfl | rfl | rfl | rfl | rfl <;> rfl)) ?_)) | (go_at_call 92; refine (HC.out _ B00.out).mono ?_; rintro e w2 ⟨a, n, c, rfl, hn, hO, hb⟩; dsimp only at hn hO; dsimp only; have HN := hid hn; have HO := hid hO; have HB := hid (B00.out.trans (hb.mono B00.out.size)); clear hn hO hb))
      clear e0
      have hB3 := HB.out.trans ((below_alloc w2 (.cells #[.int .u8 (x.kind : Int), .int .u32 (x.epoch : Int), .int .u32 (x.a : Int), .int .u32 (x.b : Int), .slice a n c] 167)).mono HB.out.size)
      have ZB := hid (ZB0.out.below hB3)
      have Z4 := hid (Z40.out.below hB3)
      have BB := hid (BB0.out.trans (hB3.mono BB0.out.size))
      have hO3 := HO.out.below (below_alloc w2 (.cells #[.int .u8 (x.kind : Int), .int .u32 (x.epoch : Int), .int .u32 (x.a : Int), .int .u32 (x.b : Int), .slice a n c] 167))
      have QB0 := blk_alloc w2 [.int .u8 (x.kind : Int), .int .u32 (x.epoch : Int), .int .u32 (x.a : Int), .int .u32 (x.b : Int), .slice a n c] 167
      have OB3 := hid hO3
      generalize (w2.alloc (.cells #[.int .u8 (x.kind : Int), .int .u32 (x.epoch : Int), .int .u32 (x.a : Int), .int .u32 (x.b : Int), .slice a n c] 167)) = w3 at ZB Z4 BB OB3 QB0 hB3 ⊢
      obtain ⟨q, hq⟩ : ∃ q, w2.heap.size = q := ⟨_, rfl⟩
      rw [hq] at QB0 ⊢
      have QB := hid QB0
      have QZ := hid (show z + 1 < q from by have := HB.out.size; have := Z40.out.lt; omega)
      clear hB3 hO3 HO HB QB0 hq HC ZB0 Z40 BB0 B00 HA
      by_cases hev : ev = 0
      case' neg =>
        have HE := hid hev
        have en : ((ev : Int) != 0) = true := by simp; exact hev
        clear hev
        go_wp2_with fail
        have hst := stepR_no (best := best) (show isRoot (getB s (k : Int)) k = false from by rw [HX.out]; exact isRoot_no (.inl HE.out))
        have R : RLdRel s w z (.bool best.isSome) (.int .i64 ((k : Int) + 1)) w3 := ⟨k + 1, best, by go_num, by omega, rfl, ZB.out, Z4.out, BB.out, by have := LA.out.step (by omega) RZ.out; rwa [hst] at this, OKB.out⟩
        refine ⟨?_, by simp [intOf]; omega⟩
        first | exact R | ((repeat apply Exists.intro); refine ⟨R, ?_⟩; and_intros <;> rfl)
      subst hev
      clear HBE
      have xo := XO.out.kind
      have xa := XO.out.a
      have k1 : (x.kind : Int) ≤ 255 := by omega
      have k2 : (x.a : Int) ≤ 4294967295 := by omega
      have k3 : (n : Int) ≤ 9223372036854775807 := by have := OB3.out.bsN.max'; have := HN.out; omega
      have q0 := QB.out.get 0 rfl
      have q1 := QB.out.get 1 rfl
      have q2 := QB.out.get 2 rfl
      have q3 := QB.out.get 3 rfl
      have q4 := QB.out.get 4 rfl
      clear xo xa
      by_cases hkd : x.kind = 1
      case' neg =>
        have e1 : ((x.kind : Int) != 1) = true := by simp; omega
        have HE := hid hkd
        clear hkd
        go_wp2_with fail
        have hst := stepR_no (best := best) (show isRoot (getB s (k : Int)) k = false from by rw [HX.out]; exact isRoot_no (.inr (.inl HE.out)))
        have R : RLdRel s w z (.bool best.isSome) (.int .i64 ((k : Int) + 1)) w3 := ⟨k + 1, best, by go_num, by omega, rfl, ZB.out, Z4.out, BB.out, by have := LA.out.step (by omega) RZ.out; rwa [hst] at this, OKB.out⟩
        refine ⟨?_, by simp [intOf]; omega⟩
        first | exact R | ((repeat apply Exists.intro); refine ⟨R, ?_⟩; and_intros <;> rfl)
      have e1 : ((x.kind : Int) != 1) = false := by simp; omega
      have HK1 := hid hkd
      clear hkd
      by_cases hln : n = 1
      case' neg =>
        have e2 : ((n : Int) != 1) = true := by simp; omega
        have HE := hid hln
        clear hln
        go_wp2_with fail
        have hst := stepR_no (best := best) (show isRoot (getB s (k : Int)) k = false from by rw [HX.out]; exact isRoot_no (.inr (.inr (.inl (by rw [HN.out]; exact HE.out)))))
        have R : RLdRel s w z (.bool best.isSome) (.int .i64 ((k : Int) + 1)) w3 := ⟨k + 1, best, by go_num, by omega, rfl, ZB.out, Z4.out, BB.out, by have := LA.out.step (by omega) RZ.out; rwa [hst] at this, OKB.out⟩
        refine ⟨?_, by simp [intOf]; omega⟩
        first | exact R | ((repeat apply Exists.intro); refine ⟨R, ?_⟩; and_intros <;> rfl)
      subst hln
      obtain ⟨bq, rfl, hcell⟩ := ob_1 OB3.out HN.out
      have hbz := OB.ownBlock OB3.out bq rfl
      obtain ⟨v, hv⟩ : ∃ v, (x.data.getD 0 0).toNat = v := ⟨_, rfl⟩
      have k4 : (v : Int) ≤ 255 := by have := (x.data.getD 0 0).toNat_lt; omega
      rw [hv] at hcell
      have HV := hid hv
      clear hv
      by_cases hvv : 1 < v
      case' pos =>
        have e3 : (1 : Int) < (v : Int) := by omega
        have HE := hid hvv
        clear hvv
        go_wp2_with fail
        have hst := stepR_no (best := best) (show isRoot (getB s (k : Int)) k = false from by rw [HX.out]; exact isRoot_no (.inr (.inr (.inr (.inl (by rw [HV.out]; exact HE.out))))))
        have R : RLdRel s w z (.bool best.isSome) (.int .i64 ((k : Int) + 1)) w3 := ⟨k + 1, best, by go_num, by omega, rfl, ZB.out, Z4.out, BB.out, by have := LA.out.step (by omega) RZ.out; rwa [hst] at this, OKB.out⟩
        refine ⟨?_, by simp [intOf]; omega⟩
        first | exact R | ((repeat apply Exists.intro); refine ⟨R, ?_⟩; and_intros <;> rfl)
      have e3 : ¬ ((1 : Int) < (v : Int)) := by omega
      have HVV := hid (show v ≤ 1 from by omega)
      clear hvv
      have hkk : (k : Int) ≤ 1 := by omega
      by_cases ham : x.a % 2 = k
      case' neg =>
        have e4 : ((x.a : Int) % 2 != (k : Int)) = true := by simp; omega
        have HE := hid ham
        clear ham
        go_wp2_with fail
        have hst := stepR_no (best := best) (show isRoot (getB s (k : Int)) k = false from by rw [HX.out]; exact isRoot_no (.inr (.inr (.inr (.inr HE.out)))))
        have R : RLdRel s w z (.bool best.isSome) (.int .i64 ((k : Int) + 1)) w3 := ⟨k + 1, best, by go_num, by omega, rfl, ZB.out, Z4.out, BB.out, by have := LA.out.step (by omega) RZ.out; rwa [hst] at this, OKB.out⟩
        refine ⟨?_, by simp [intOf]; omega⟩
        first | exact R | ((repeat apply Exists.intro); refine ⟨R, ?_⟩; and_intros <;> rfl)
      have e4 : ((x.a : Int) % 2 != (k : Int)) = false := by simp; omega
      have HAM := hid ham
      clear ham
      have hroot := hid (show isRoot (getB s (k : Int)) k = true from by rw [HX.out]; exact isRoot_yes HK1.out HN.out (by rw [HV.out]; exact HVV.out) HAM.out)
      have hql := QB.out.lt
      have hbl := World.block_lt_of_cell? w3 ⟨bq, 0, none⟩ hcell
      dsimp only at hbl
      have g0 := Z4.out.get 0 rfl
      have g1 := Z4.out.get 1 rfl
      have g2 := Z4.out.get 2 rfl
      have g3 := Z4.out.get 3 rfl
      have f0 := Z4.out.free 0
      have f1 := Z4.out.free 1
      have f2 := Z4.out.free 2
      have f3 := Z4.out.free 3
      have HW4 := hid (show ∀ cs, Blk w3 (z + 1) cs 141 → cs.length = 4 → Blk ((((w3.setCell ⟨z + 1, 0, none⟩ (.int .u32 (x.a : Int))).setCell ⟨z + 1, 1, none⟩ (.int .u32 (x.epoch : Int))).setCell ⟨z + 1, 2, none⟩ (.int .u32 (x.b : Int))).setCell ⟨z + 1, 3, none⟩ (.int .u8 (v : Int))).drew (z + 1) [.int .u32 (x.a : Int), .int .u32 (x.epoch : Int), .int .u32 (x.b : Int), .int .u8 (v : Int)] 141 ∧ Chg [z + 1] w3 ((((w3.setCell ⟨z + 1, 0, none⟩ (.int .u32 (x.a : Int))).setCell ⟨z + 1, 1, none⟩ (.int .u32 (x.epoch : Int))).setCell ⟨z + 1, 2, none⟩ (.int .u32 (x.b : Int))).setCell ⟨z + 1, 3, none⟩ (.int .u8 (v : Int))).drew from fun cs hcs hl => by
        have hb := (((hcs.set 0 (.int .u32 (x.a : Int))).set 1 (.int .u32 (x.epoch : Int))).set 2 (.int .u32 (x.b : Int))).set 3 (.int .u8 (v : Int))
        have hc := (((chg_setCell w3 (z + 1) 0 (.int .u32 (x.a : Int))).trans (chg_setCell _ (z + 1) 1 (.int .u32 (x.epoch : Int)))).trans (chg_setCell _ (z + 1) 2 (.int .u32 (x.b : Int)))).trans (chg_setCell _ (z + 1) 3 (.int .u8 (v : Int)))
        obtain ⟨p0, p1, p2, p3, rfl⟩ : ∃ p0 p1 p2 p3, cs = [p0, p1, p2, p3] := by
          match cs, hl with
          | [p0, p1, p2, p3], _ => exact ⟨p0, p1, p2, p3, rfl⟩
        exact ⟨hb.below (below_drew _), hc.trans (Chg.of_below _ (below_drew _))⟩)
      rcases best with _ | r0
      · have HST := hid (show stepR s k none = some (rootOf x) from by unfold stepR; rw [hroot.out, HX.out]; rfl)
        go_upto_region 12 with fail
        go_region
        have hw4 := HW4.out _ Z4.out (by rfl)
        generalize ((((w3.setCell ⟨z + 1, 0, none⟩ (.int .u32 (x.a : Int))).setCell ⟨z + 1, 1, none⟩ (.int .u32 (x.epoch : Int))).setCell ⟨z + 1, 2, none⟩ (.int .u32 (x.b : Int))).setCell ⟨z + 1, 3, none⟩ (.int .u8 (v : Int))).drew = w4 at hw4 ⊢
        have R4 := hid hw4.1
        have C4 := hid hw4.2
        clear hw4 g0 g1 g2 g3 f0 f1 f2 f3 q0 q1 q2 q3 q4 hcell hql hbl HW4
        go_wp2_with fail
        have hst := HST.out
        have ZB5 := ZB.out.keep C4.out (by simp)
        have BB5 := BB.out.trans (C4.out.below BB.out.size (by simp; have := Hz.out; omega))
        have R : RLdRel s w z (.bool true) (.int .i64 ((k : Int) + 1)) w4 := ⟨k + 1, some (rootOf x), by go_num, by omega, rfl, ZB5, by show Blk w4 (z + 1) [.int .u32 (x.a : Int), .int .u32 (x.epoch : Int), .int .u32 (x.b : Int), .int .u8 (((x.data.getD 0 0).toNat : Nat) : Int)] _; rw [HV.out]; exact R4.out, BB5, by have := LA.out.step (by omega) RZ.out; rwa [hst] at this, fun r hr => by cases hr; exact ⟨XO.out.a, XO.out.epoch, XO.out.b, (x.data.getD 0 0).toNat_lt⟩⟩
        refine ⟨?_, by simp [intOf]; omega⟩
        first | exact R | ((repeat apply Exists.intro); refine ⟨R, ?_⟩; and_intros <;> rfl)
      by_cases hlt : r0.turn < x.a
      case' pos =>
        have hlt' : (r0.turn : Int) < (x.a : Int) := by omega
        have HST := hid (show stepR s k (some r0) = some (rootOf x) from by unfold stepR; rw [hroot.out, HX.out]; dsimp only; rw [if_pos hlt]; rfl)
        clear hlt
        go_upto_region 12 with fail
        go_region
        have hw4 := HW4.out _ Z4.out (by rfl)
        generalize ((((w3.setCell ⟨z + 1, 0, none⟩ (.int .u32 (x.a : Int))).setCell ⟨z + 1, 1, none⟩ (.int .u32 (x.epoch : Int))).setCell ⟨z + 1, 2, none⟩ (.int .u32 (x.b : Int))).setCell ⟨z + 1, 3, none⟩ (.int .u8 (v : Int))).drew = w4 at hw4 ⊢
        have R4 := hid hw4.1
        have C4 := hid hw4.2
        clear hw4 g0 g1 g2 g3 f0 f1 f2 f3 q0 q1 q2 q3 q4 hcell hql hbl HW4
        go_wp2_with fail
        have hst := HST.out
        have ZB5 := ZB.out.keep C4.out (by simp)
        have BB5 := BB.out.trans (C4.out.below BB.out.size (by simp; have := Hz.out; omega))
        have R : RLdRel s w z (.bool true) (.int .i64 ((k : Int) + 1)) w4 := ⟨k + 1, some (rootOf x), by go_num, by omega, rfl, ZB5, by show Blk w4 (z + 1) [.int .u32 (x.a : Int), .int .u32 (x.epoch : Int), .int .u32 (x.b : Int), .int .u8 (((x.data.getD 0 0).toNat : Nat) : Int)] _; rw [HV.out]; exact R4.out, BB5, by have := LA.out.step (by omega) RZ.out; rwa [hst] at this, fun r hr => by cases hr; exact ⟨XO.out.a, XO.out.epoch, XO.out.b, (x.data.getD 0 0).toNat_lt⟩⟩
        refine ⟨?_, by simp [intOf]; omega⟩
        first | exact R | ((repeat apply Exists.intro); refine ⟨R, ?_⟩; and_intros <;> rfl)
      have hlt' : ¬ ((r0.turn : Int) < (x.a : Int)) := by omega
      have HST := hid (show stepR s k (some r0) = some r0 from by unfold stepR; rw [hroot.out, HX.out]; dsimp only; rw [if_neg hlt]; rfl)
      clear hlt
      go_wp2_with fail
      have hst := HST.out
      have R : RLdRel s w z (.bool true) (.int .i64 ((k : Int) + 1)) w3 := ⟨k + 1, some r0, by go_num, by omega, rfl, ZB.out, Z4.out, BB.out, by have := LA.out.step (by omega) RZ.out; rwa [hst] at this, OKB.out⟩
      refine ⟨?_, by simp [intOf]; omega⟩
      first | exact R | ((repeat apply Exists.intro); refine ⟨R, ?_⟩; and_intros <;> rfl)
    case' neg =>
      obtain rfl : k = 2 := by omega
      have FIN := hid LA.out.last
      have ZB := ZB0
      have BB := BB0
      clear hw1
      rcases best with _ | r0
      · go_upto_region 16 with fail
        go_step
        repeat (first | (refine wpList_store_blk (o := ⟨none, _, 0, _, _, _⟩) 141 (.tmp 2) (.tmp 81) rfl rfl z [.int .u32 0, .int .u32 0, .int .u32 0, .int .u8 0] [.int .u32 0, .int .u32 0, .int .u32 0, .int .u8 0] 141 rfl rfl ZB.out rfl (by kernel_rfl) (by simp [Value.oneCell']) ?_; intro wE hZE hCE) | go_step)
        refine bodyPost_ret (v := .tuple #[.agg [.int .u32 0, .int .u32 0, .int .u32 0, .int .u8 0].toArray, .int .i64 4]) (results_blk2 (fn := Tryd.f72) (p := 2) (q := 3) (ty := 141) rfl _ z [.int .u32 0, .int .u32 0, .int .u32 0, .int .u8 0] 141 (.int .i64 4) rfl rfl hZE ⟨_, Tryd.underlying141, rfl⟩ (by kernel_rfl)) rfl ?_
        rw [FIN.out]
        exact ⟨rfl, BB.out.trans (hCE.below BB.out.size (by simp; exact Nat.le_of_eq Hz.out))⟩
      repeat (first | (refine wpList_load_blk (o := ⟨some 82, _, _, _, _, _⟩) 141 (.tmp 4) rfl rfl (z + 1) (rootV r0) 141 rfl Z40.out ⟨_, Tryd.underlying141, rfl⟩ size_rroot ?_) | (refine wpList_store_blk (o := ⟨none, _, 0, _, _, _⟩) 141 (.tmp 2) (.tmp 82) rfl rfl z [.int .u32 0, .int .u32 0, .int .u32 0, .int .u8 0] (rootV r0) 141 rfl rfl ZB.out rfl size_rroot (by simp [rootV, Value.oneCell']) ?_; intro wE hZE hCE) | go_step)
      refine bodyPost_ret (v := .tuple #[.agg (rootV r0).toArray, .int .i64 0]) (results_blk2 (fn := Tryd.f72) (p := 2) (q := 3) (ty := 141) rfl _ z (rootV r0) 141 (.int .i64 0) rfl rfl hZE ⟨_, Tryd.underlying141, rfl⟩ (by kernel_rfl)) rfl ?_
      rw [FIN.out]
      exact ⟨rfl, BB.out.trans (hCE.below BB.out.size (by simp; exact Nat.le_of_eq Hz.out))⟩

def RLdNil (w : World) (z : Nat) (fv iv : Value) (wr : World) : Prop :=
  iv = .int .i64 0 ∧ fv = .bool false ∧ Blk wr z [.int .u32 0, .int .u32 0, .int .u32 0, .int .u8 0] 141 ∧ Below w.heap.size w wr
set_option maxRecDepth 100000 in
set_option maxHeartbeats 4000000 in
theorem nilrload_calls (w : World) : Calls Tryd.prog 72 #[.pointer none] w (LoadTo w (rootZ, 6)) := by
  have hb1 := below_alloc w (.cells #[.int .u32 0, .int .u32 0, .int .u32 0, .int .u8 0] 141)
  have hb2 := below_alloc (w.alloc (.cells #[.int .u32 0, .int .u32 0, .int .u32 0, .int .u8 0] 141)) (.cells #[.int .u32 0, .int .u32 0, .int .u32 0, .int .u8 0] 141)
  obtain ⟨z, hz⟩ : ∃ z, w.heap.size = z := ⟨_, rfl⟩
  have X0 := hid (show RLdNil w z (.bool false) (.int .i64 0) ((w.alloc (.cells #[.int .u32 0, .int .u32 0, .int .u32 0, .int .u8 0] 141)).alloc (.cells #[.int .u32 0, .int .u32 0, .int .u32 0, .int .u8 0] 141)) from
    ⟨rfl, rfl, by rw [← hz]; exact (blk_alloc w [.int .u32 0, .int .u32 0, .int .u32 0, .int .u8 0] 141).below hb2, below_step hb1 hb2⟩)
  have Hz := hid hz
  clear hb1 hb2
  go_enter Tryd.func72, Tryd.ntmps72
  go_wp2_with fail
  clear hz
  go_loopw [5, 11] (fun fv iv wr => RLdNil w z fv iv wr) (fun _ iv _ => 2 - (intOf iv).toNat)
  case atStart => exact X0.out
  case round =>
    obtain ⟨rfl, rfl, hzb, hbb⟩ := hrel
    have ZB := hid hzb
    have BB := hid hbb
    clear hzb hbb X0
    go_upto_region 8 with (go_at_call 97; refine (nilrget_calls _ _).mono ?_; rintro e w2 ⟨rfl, rfl⟩)
    repeat (first | (refine wpList_store_blk (o := ⟨none, _, 0, _, _, _⟩) 141 (.tmp 2) (.tmp 22) rfl rfl z [.int .u32 0, .int .u32 0, .int .u32 0, .int .u8 0] [.int .u32 0, .int .u32 0, .int .u32 0, .int .u8 0] 141 rfl rfl ZB.out rfl (by kernel_rfl) (by simp [Value.oneCell']) ?_; intro wE hZE hCE) | go_step)
    refine bodyPost_ret (v := .tuple #[.agg [.int .u32 0, .int .u32 0, .int .u32 0, .int .u8 0].toArray, .int .i64 6]) (results_blk2 (fn := Tryd.f72) (p := 2) (q := 3) (ty := 141) rfl _ z [.int .u32 0, .int .u32 0, .int .u32 0, .int .u8 0] 141 (.int .i64 6) rfl rfl hZE ⟨_, Tryd.underlying141, rfl⟩ (by kernel_rfl)) rfl ?_
    rw [show ((rootZ, 6) : RootD × Nat) = (rootZ, 6) from rfl]
    exact ⟨rfl, BB.out.trans (hCE.below BB.out.size (by simp; exact Nat.le_of_eq Hz.out))⟩
end Go.Proofs.YtoapibbbooongaaDoor
