/- The walk of InkReads: all bytes, asked in any order for anything, are told as they stand. -/
import Derived.Test.YtaepinficmjnpaaInkF
import Derived.Test.YtaepinficmjnpaaInkNums
namespace Go.Proofs.Ytaepinficmjnpaa
open Go.RowKit Go.Quad _root_.Quad.Ink

theorem EyeAt.chg {S : List Nat} {w w' : World} {B g : Nat} {p : List UInt8} {bad : Bool} (h : EyeAt w B g p bad) (hc : Chg S w w') (hS : ∀ k ∈ S, g < k) : EyeAt w' B g p bad := by
  obtain ⟨a, cap, h⟩ := h
  refine ⟨a, cap, h.own.keep hc (fun hm => by have := hS _ hm; omega), cs_chg h.row hc (fun x hx hm => ?_), h.ge, h.up, h.lt, h.form⟩
  have h1 := h.up x hx
  have := hS _ hm
  omega

theorem REyeAt.chg {S : List Nat} {w w' : World} {g A : Nat} {p : List UInt8} {bad : Bool} (h : REyeAt w g A p bad) (hc : Chg S w w') (hg : g ∉ S) (hA : A ∉ S) : REyeAt w' g A p bad := by
  obtain ⟨a, cap, h⟩ := h
  exact ⟨a, cap, h.own.keep hc hg, h.loc.row h.row hc (fun _ => hA), h.loc⟩

/-- where bytes that came in lie -/
theorem bs_home {w : World} {a : Option Addr} {cap : Nat} {p : List UInt8} (h : BS w a cap p) (n : Nat) : ∃ A, (p = [] ∨ ∃ off, a = some ⟨A, off, none⟩) ∧ (A = n ∨ A < w.heap.size) := by
  rcases Nat.eq_zero_or_pos p.length with h0 | h0
  · exact ⟨n, .inl (List.eq_nil_of_length_eq_zero h0), .inl rfl⟩
  · obtain ⟨b, off, rfl, hc⟩ := h.at h0
    exact ⟨b, .inr ⟨off, rfl⟩, .inr (World.block_lt_of_cell? w ⟨b, off + 0, none⟩ (hc 0 h0))⟩

theorem textS_len (s : St) : (textS s).2.1.length ≤ s.1.length := by
  have h := numS_len s
  unfold textS
  split
  · exact h
  · split
    · simp [failS]
    · rw [List.length_drop]; omega
theorem intS_len (s : St) : (intS s).2.1.length ≤ s.1.length := by
  have h := numS_len s
  unfold intS
  split
  · simp [failS]
  · exact h
theorem boolS_len (s : St) : (boolS s).2.1.length ≤ s.1.length := by
  have h := numS_len s
  unfold boolS
  split
  · simp [failS]
  · exact h

/-- what the loop keeps: both eyes stand alike -/
def RdRel (n B ge gr A : Nat) (w1 : World) (i : Value) (wr : World) : Prop :=
  ∃ (k : Nat) (s : St), i = .int .i64 (k : Int) ∧ k ≤ n ∧ EyeAt wr B ge s.1 s.2 ∧ REyeAt wr gr A s.1 s.2 ∧ s.1.length ≤ 400 ∧ Chg [ge, gr] w1 wr

/-- behind an ask: both eyes stand alike again -/
structure Both (B ge gr A : Nat) (w1 : World) (s : St) (w : World) : Prop where
  e : EyeAt w B ge s.1 s.2
  r : REyeAt w gr A s.1 s.2
  len : s.1.length ≤ 400
  chg : Chg [ge, gr] w1 w

theorem both_step {B ge gr A : Nat} {w1 w2 w3 w4 : World} {s s' : St} (h : Both B ge gr A w1 s w2) (hl : s'.1.length ≤ s.1.length) (hlt : A ≠ ge ∧ A ≠ gr ∧ ge < gr)
    (he : EyeAt w3 B ge s'.1 s'.2) (hc : Chg [ge] w2 w3) (hr : REyeAt w3 gr A s.1 s.2 → REyeAt w4 gr A s'.1 s'.2 ∧ Chg [gr] w3 w4) : Both B ge gr A w1 s' w4 := by
  obtain ⟨r', c'⟩ := hr (h.r.chg hc (by simp; omega) (by simp; omega))
  refine ⟨he.chg c' (by intro k hk; simp at hk; omega), r', by have := h.len; omega, ?_⟩
  exact (h.chg.trans (hc.mono (by intro k hk; simp at hk; simp [hk]))).trans (c'.mono (by intro k hk; simp at hk; simp [hk]))

theorem Both.drew {B ge gr A : Nat} {w1 : World} {s : St} {w : World} (h : Both B ge gr A w1 s w) (n : Nat) : Both B ge gr A w1 s (w.drewN n) :=
  ⟨h.e.below (below_drewN (Below.refl _ _) n), h.r.below (below_drewN (Below.refl _ _) n), h.len, h.chg.trans (Chg.of_below _ (below_drewN (Below.refl _ _) n))⟩

theorem quiet_flip {f : FuncId} {args : Array Value} {w : World} {n : Nat} {v : Value} (h : Calls Try.prog f args (w.drewN n) fun e w' => e = .returned v ∧ w.drewN n = w') :
    Calls Try.prog f args (w.drewN n) fun e w'' => e = .returned v ∧ ∃ m, w'' = w.drewN m := h.mono fun _ _ ⟨he, hm⟩ => ⟨he, n, hm.symm⟩

theorem Both.left {B ge gr A : Nat} {w1 : World} {s : St} {w : World} (h : Both B ge gr A w1 s w) (n : Nat) :
    Calls Try.prog 17 #[.pointer (some ⟨ge, 0, none⟩)] (w.drewN n) fun e w'' => e = .returned (.int .i64 (s.1.length : Int)) ∧ ∃ m, w'' = w.drewN m :=
  quiet_flip (left_calls _ _ _ _ _ (h.drew n).e)

theorem Both.ends {B ge gr A : Nat} {w1 : World} {s : St} {w : World} (h : Both B ge gr A w1 s w) : ∃ b : Bool,
    (∀ n, Calls Try.prog 29 #[.pointer (some ⟨ge, 0, none⟩)] (w.drewN n) fun e w'' => e = .returned (.int .i64 (if b = true then 0 else 4)) ∧ ∃ m, w'' = w.drewN m) ∧
    (∀ n, Calls Try.prog 30 #[.pointer (some ⟨gr, 0, none⟩)] (w.drewN n) fun e w'' => e = .returned (.bool b) ∧ ∃ m, w'' = w.drewN m) := by
  refine ⟨!s.2 && decide (s.1.length = 0), fun n => ?_, fun n => quiet_flip (rend_calls _ _ _ _ _ (h.drew n).r)⟩
  have e := end_calls _ _ _ _ _ (h.drew n).e
  have ee : (if s.2 = true ∨ 0 < s.1.length then (4 : Int) else 0) = if (!s.2 && decide (s.1.length = 0)) = true then 0 else 4 := by
    cases s.2
    · by_cases h0 : s.1.length = 0 <;> simp [h0]
    · simp
  rw [ee] at e
  exact quiet_flip e

set_option maxRecDepth 20000 in
set_option maxHeartbeats 4000000 in
theorem inkReads_walk (a : Option Addr) (cap : Nat) (l : List UInt8) (am : Option Addr) (capm : Nat) (m : List UInt8) (w : World) (h : BS w a cap l) (hm : BS w am capm m) :
    Calls Try.prog 6 #[.slice a l.length cap, .slice am m.length capm] w fun e w' => e = .returned (.bool true) ∧ Below w.heap.size w w' := by
  have hl := h.max'
  have hf := h.fit'
  have hlm := hm.max'
  obtain ⟨L, n, hL, hN, hB, hcase⟩ := cut600 h 400
  have HL := hid hL
  have HN := hid hN
  have H := hid hB
  have Hm := hid hm
  clear h hL hN hB hm
  rcases hcase with ⟨hs, rfl⟩ | ⟨hs, rfl⟩
  case' inl => obtain ⟨N, hNN⟩ : ∃ N : Nat, N = l.length := ⟨_, rfl⟩
  case' inr => obtain ⟨N, hNN⟩ : ∃ N : Nat, N = 400 := ⟨_, rfl⟩
  all_goals
    have HNN := hid hNN
    replace HL : Kept (L.length = N) := ⟨by rw [HL.out, hNN]⟩
    replace HN : Kept (N ≤ 400) := ⟨by have := HN.out; omega⟩
    clear hNN
    go_enter Try.func6, Try.ntmps6
    go_wp2_with fail
    refine (awake_calls w).mono ?_
    rintro e w1 ⟨rfl, hb1⟩
    have H1 := hid hb1
    clear hb1
    have hown := OB.empty w1
    have hsrc := (H.out.below H1.out).below (below_alloc w1 (.cells #[] 5))
    go_wp2_with (first | (at_builtin; refine wpList_append_b (.tmp 18) (.tmp 19) _ rfl rfl _ 5 info_u8 under_bytes _ _ hown rfl hsrc (by rw [HL.out, HNN.out]; rfl) (by have := HL.out; have := HN.out; simp; omega) (by simp) ?_; intro v5 w2 hown1 hg1 hb1 _; have hown1' := OB.below hown1 (below_alloc w2 (.cells #[.int .u8 165] 5)); have hz1 := hid hb1.size) | (at_builtin; refine wpList_append_b (.tmp 20) (.tmp 21) _ rfl rfl _ 5 info_u8 under_bytes _ _ hown1' rfl (lit_bs w2 5 [165] (by simp [maxLen])) rfl (by have := HL.out; have := HN.out; simp; omega) (by have := hz1.out; simp at this ⊢; omega) ?_; intro v7 w3 hown2 hg2 hb2 _; obtain ⟨a7, c7, rfl, hs7, ho7⟩ := OB.bs hown2; have hf7 := hid hs7.fit') | (refine wpList_cut _ (.tmp 22) none (some (.tmp 24)) rfl rfl 5 info_u8 under_bytes rfl hs7 0 L.length (.inr ⟨rfl, rfl⟩) (.inl (by rw [HL.out, HNN.out]; rfl)) (Nat.zero_le _) (by have := hf7.out; simp at this; omega) ?_; intro a8 hs8))
    have hz2 := hid hb2.size
    have B3 := hid (((below_alloc w1 (.cells #[] 5)).trans hb1).trans (((below_alloc w2 (.cells #[.int .u8 165] 5)).mono (by have := hz1.out; simp at this; omega)).trans hb2))
    have S8 : Kept (BS w3 a8 c7 (L ++ [165])) := ⟨by simpa using hs8⟩
    have hf8 : N + 1 ≤ c7 := by have := hf7.out; have := HL.out; simp at *; omega
    have F8 := hid hf8
    clear hown hsrc hown1 hg1 hb1 hown1' hg2 hb2 hown2 hs7 ho7 hs8 hz1 hz2 hf7 hf8
    refine (read_calls a8 c7 L w3 S8.out.left (by have := HL.out; have := HN.out; omega)).mono ?_
    rintro e w4 ⟨ge, rfl, hE, hb4⟩
    have E4 := hid hE
    have S9 := hid (S8.out.below hb4)
    have B4 := hid (B3.out.trans (hb4.mono B3.out.size))
    have HB4 := hid (H1.out.trans (B4.out.mono H1.out.size))
    have hge : Kept (w.heap.size ≤ ge ∧ ge < w4.heap.size ∧ w3.heap.size ≤ ge) := by
      obtain ⟨_, _, hI⟩ := hE
      exact ⟨Nat.le_trans (Nat.le_trans H1.out.size B3.out.size) hI.ge, hI.own.lt, hI.ge⟩
    have hb34 := hid hb4
    clear hE hb4
    go_wp2_with fail
    obtain ⟨A, hA1, hA2⟩ := bs_home H.out (w4.heap.size + 1)
    have hA3 : A ≠ ge ∧ A ≠ w4.heap.size ∧ ge < w4.heap.size := by have := hge.out; have := HB4.out.size; omega
    have HA := hid hA3
    clear hA2
    have R5 : Kept (REyeAt (w4.alloc (.cells #[.slice a N cap, .bool false] 47)) w4.heap.size A L false) := ⟨⟨a, cap, by
      have := blk_alloc w4 [.slice a L.length cap, .bool false] 47
      rw [HL.out] at this ⊢
      exact this, (H.out.below HB4.out).below (below_alloc w4 _), hA1.imp id fun h => ⟨hA3.2.1, h⟩⟩⟩
    have S10 := hid (S9.out.below (below_alloc w4 (.cells #[.slice a N cap, .bool false] 47)))
    have E5 := hid (E4.out.below (below_alloc w4 (.cells #[.slice a N cap, .bool false] 47)))
    have B5 := hid (HB4.out.trans ((below_alloc w4 (.cells #[.slice a N cap, .bool false] 47)).mono HB4.out.size))
    have HLT := hid (show L.length ≤ 400 by have := HL.out; have := HN.out; omega)
    have H5 := hid (H.out.below B5.out)
    have Hm5 := hid (Hm.out.below B5.out)
    clear hA1 hA3
    generalize hw5 : w4.alloc (.cells #[.slice a N cap, .bool false] 47) = w5 at R5 S10 E5 B5 H5 Hm5
    generalize hgr : w4.heap.size = gr at R5 HA ⊢
    have HW := hid hw5
    have HGe : Kept (ge < gr) := ⟨by have := hge.out; omega⟩
    have B35 : Kept (Below w3.heap.size w3 w5) := ⟨by
      rw [← hw5]
      exact hb34.out.trans ((below_alloc w4 _).mono hb34.out.size)⟩
    clear hw5 hgr
    go_loopw [33] (fun i wr => RdRel m.length w3.heap.size ge gr A w5 i wr) (fun i _ => m.length - (intOf i).toNat)
    case atStart =>
      have hW := HW.out
      rw [HNN.out] at hW
      rw [hW]
      exact ⟨0, (L, false), rfl, Nat.zero_le _, E5.out, R5.out, HLT.out, Chg.refl _ _⟩
    case round =>
      obtain ⟨k, s, rfl, hk, hE, hR, hl4, hC⟩ := hrel
      have Bs := hid (Both.mk hE hR hl4 hC)
      clear hE hR hl4 hC
      have Hge := hid (show ∀ kk ∈ [ge, gr], w.heap.size ≤ kk by
        intro kk hkk
        have := hge.out; have := HA.out
        simp at hkk
        omega)
      have Bw := hid (B5.out.trans (Bs.out.chg.below B5.out.size Hge.out))
      have B3w := hid (B35.out.trans (Bs.out.chg.below B35.out.size (by
        intro kk hkk
        have := hge.out; have := HGe.out
        simp at hkk
        omega)))
      by_cases hgo : k < m.length ∧ k < 60
      · obtain ⟨hkm, h60⟩ := hgo
        have hcell := (Hm.out.below Bw.out).get (by omega)
        obtain ⟨bm, om, rfl, hcm⟩ := hcell
        obtain ⟨x, _, hx255, hcx⟩ := hcm k hkm
        clear hcm
        have h60' : ¬ ((60 : Int) ≤ (k : Int)) := by omega
        have hkm' : (k : Int) < (m.length : Int) := by omega
        by_cases h0 : x % 4 = 0
        · have hx0 : (((x : Int) % 4) == 0) = true := by rw [beq_iff_eq]; omega
          focus
            have eA := enum_calls wr _ ge s Bs.out.e
            go_wp2_with fail
            refine eA.mono ?_
            rintro e wa ⟨rfl, he, hc⟩
            have Ea := hid he
            have Ca := hid hc
            clear eA he hc
            go_wp2_with fail
            refine (rnum_calls wa gr A s (Bs.out.r.chg Ca.out (by have := HA.out; have := HGe.out; simp; omega) (by have := HA.out; simp; omega))).mono ?_
            rintro e wb ⟨rfl, hr, hc⟩
            have Bt := hid (both_step Bs.out (numS_len s) (by have := HA.out; have := HGe.out; omega) Ea.out Ca.out (fun _ => ⟨hr, hc⟩))
            clear hr hc Ea Ca
            obtain ⟨b, hEn, hRn⟩ := Bt.out.ends
            have hLf := Bt.out.left
            have hR1 := Bt.out.r
            have hR1' := hR1
            obtain ⟨ax, capx, hI⟩ := hR1'
            have c0 : wb.cell? ⟨gr, 0, none⟩ = some (.slice ax (numS s).2.1.length capx) := by rw [hI.own.cell]; rfl
            clear hI hR1
            have L1 := hid hLf
            have E1 := hid hEn
            have R1 := hid hRn
            clear hLf hEn hRn
            cases b
            all_goals
              go_wp2_with fail
              go_quiet (first | exact L1.out _ | exact E1.out _ | exact R1.out _)
              go_wp2_with fail
              have RR : RdRel m.length w3.heap.size ge gr A w5 (.int .i64 ((k : Int) + 1)) (wb.drewN nq) :=
                ⟨k + 1, _, by go_num, by omega, (Bt.out.drew nq).e, (Bt.out.drew nq).r, Bt.out.len, (Bt.out.drew nq).chg⟩
              refine ⟨?_, by simp [intOf]; omega⟩
              first | exact RR | ((repeat apply Exists.intro); refine ⟨RR, ?_⟩; and_intros <;> rfl)
        by_cases h1 : x % 4 = 1
        · have hx0 : (((x : Int) % 4) == 0) = false := by rw [beq_eq_false_iff_ne]; omega
          have hx1 : (((x : Int) % 4) == 1) = true := by rw [beq_iff_eq]; omega
          focus
            have eA := eint_calls wr _ ge s Bs.out.e
            go_wp2_with fail
            refine eA.mono ?_
            rintro e wa ⟨rfl, he, hc⟩
            have Ea := hid he
            have Ca := hid hc
            clear eA he hc
            go_wp2_with fail
            refine (rint_calls wa gr A s (Bs.out.r.chg Ca.out (by have := HA.out; have := HGe.out; simp; omega) (by have := HA.out; simp; omega))).mono ?_
            rintro e wb ⟨rfl, hr, hc⟩
            have Bt := hid (both_step Bs.out (intS_len s) (by have := HA.out; have := HGe.out; omega) Ea.out Ca.out (fun _ => ⟨hr, hc⟩))
            clear hr hc Ea Ca
            obtain ⟨b, hEn, hRn⟩ := Bt.out.ends
            have hLf := Bt.out.left
            have hR1 := Bt.out.r
            have hR1' := hR1
            obtain ⟨ax, capx, hI⟩ := hR1'
            have c0 : wb.cell? ⟨gr, 0, none⟩ = some (.slice ax (intS s).2.1.length capx) := by rw [hI.own.cell]; rfl
            clear hI hR1
            have L1 := hid hLf
            have E1 := hid hEn
            have R1 := hid hRn
            clear hLf hEn hRn
            cases b
            all_goals
              go_wp2_with fail
              go_quiet (first | exact L1.out _ | exact E1.out _ | exact R1.out _)
              go_wp2_with fail
              have RR : RdRel m.length w3.heap.size ge gr A w5 (.int .i64 ((k : Int) + 1)) (wb.drewN nq) :=
                ⟨k + 1, _, by go_num, by omega, (Bt.out.drew nq).e, (Bt.out.drew nq).r, Bt.out.len, (Bt.out.drew nq).chg⟩
              refine ⟨?_, by simp [intOf]; omega⟩
              first | exact RR | ((repeat apply Exists.intro); refine ⟨RR, ?_⟩; and_intros <;> rfl)
        by_cases h2 : x % 4 = 2
        · have hx0 : (((x : Int) % 4) == 0) = false := by rw [beq_eq_false_iff_ne]; omega
          have hx1 : (((x : Int) % 4) == 1) = false := by rw [beq_eq_false_iff_ne]; omega
          have hx2 : (((x : Int) % 4) == 2) = true := by rw [beq_iff_eq]; omega
          focus
            have eA := ebool_calls wr _ ge s Bs.out.e
            go_wp2_with fail
            refine eA.mono ?_
            rintro e wa ⟨rfl, he, hc⟩
            have Ea := hid he
            have Ca := hid hc
            clear eA he hc
            go_wp2_with fail
            refine (rbool_calls wa gr A s (Bs.out.r.chg Ca.out (by have := HA.out; have := HGe.out; simp; omega) (by have := HA.out; simp; omega))).mono ?_
            rintro e wb ⟨rfl, hr, hc⟩
            have Bt := hid (both_step Bs.out (boolS_len s) (by have := HA.out; have := HGe.out; omega) Ea.out Ca.out (fun _ => ⟨hr, hc⟩))
            clear hr hc Ea Ca
            obtain ⟨b, hEn, hRn⟩ := Bt.out.ends
            have hLf := Bt.out.left
            have hR1 := Bt.out.r
            have hR1' := hR1
            obtain ⟨ax, capx, hI⟩ := hR1'
            have c0 : wb.cell? ⟨gr, 0, none⟩ = some (.slice ax (boolS s).2.1.length capx) := by rw [hI.own.cell]; rfl
            clear hI hR1
            have L1 := hid hLf
            have E1 := hid hEn
            have R1 := hid hRn
            clear hLf hEn hRn
            cases b
            all_goals
              go_wp2_with fail
              go_quiet (first | exact L1.out _ | exact E1.out _ | exact R1.out _)
              go_wp2_with fail
              have RR : RdRel m.length w3.heap.size ge gr A w5 (.int .i64 ((k : Int) + 1)) (wb.drewN nq) :=
                ⟨k + 1, _, by go_num, by omega, (Bt.out.drew nq).e, (Bt.out.drew nq).r, Bt.out.len, (Bt.out.drew nq).chg⟩
              refine ⟨?_, by simp [intOf]; omega⟩
              first | exact RR | ((repeat apply Exists.intro); refine ⟨RR, ?_⟩; and_intros <;> rfl)
        · have hx0 : (((x : Int) % 4) == 0) = false := by rw [beq_eq_false_iff_ne]; omega
          have hx1 : (((x : Int) % 4) == 1) = false := by rw [beq_eq_false_iff_ne]; omega
          have hx2 : (((x : Int) % 4) == 2) = false := by rw [beq_eq_false_iff_ne]; omega
          focus
            have eA := etext_calls wr _ ge s Bs.out.e (by have := Bs.out.len; omega) (by have := (B3w.out).size; omega)
            go_wp2_with fail
            refine eA.mono ?_
            rintro e wa ⟨at1, ct1, rfl, ht1, he, hc, hlo⟩
            have Ea := hid he
            have Ca := hid hc
            have T1 := hid ht1
            have Lo := hid hlo
            clear eA he hc ht1 hlo
            go_wp2_with fail
            refine (rtext_calls wa gr A s (Bs.out.r.chg Ca.out (by have := HA.out; have := HGe.out; simp; omega) (by have := HA.out; simp; omega)) (by have := Bs.out.len; omega)).mono ?_
            rintro e wb ⟨at2, ct2, rfl, ht2, hr, hc⟩
            have Bt := hid (both_step Bs.out (textS_len s) (by have := HA.out; have := HGe.out; omega) Ea.out Ca.out (fun _ => ⟨hr, hc⟩))
            have T1b := hid (cs_chg T1.out hc (fun x hx hm => by
              have h1 := Lo.out x hx
              simp at hm
              obtain ⟨_, _, hI⟩ := Bs.out.r
              have h2 := hI.own.lt
              omega))
            have T2 := hid ht2
            clear hr hc Ea Ca ht2
            go_wp2_with fail
            refine (same_calls _ _ _ _ _ _ _ T1b.out T2.out).mono ?_
            rintro e w' ⟨rfl, rfl⟩
            rw [beq_self_eq_true]
            obtain ⟨b, hEn, hRn⟩ := Bt.out.ends
            have hLf := Bt.out.left
            have hR1 := Bt.out.r
            have hR1' := hR1
            obtain ⟨ax, capx, hI⟩ := hR1'
            have c0 : wb.cell? ⟨gr, 0, none⟩ = some (.slice ax (textS s).2.1.length capx) := by rw [hI.own.cell]; rfl
            clear hI hR1
            have L1 := hid hLf
            have E1 := hid hEn
            have R1 := hid hRn
            clear hLf hEn hRn
            cases b
            all_goals
              go_wp2_with fail
              go_quiet (first | exact L1.out _ | exact E1.out _ | exact R1.out _)
              go_wp2_with fail
              have RR : RdRel m.length w3.heap.size ge gr A w5 (.int .i64 ((k : Int) + 1)) (wb.drewN nq) :=
                ⟨k + 1, _, by go_num, by omega, (Bt.out.drew nq).e, (Bt.out.drew nq).r, Bt.out.len, (Bt.out.drew nq).chg⟩
              refine ⟨?_, by simp [intOf]; omega⟩
              first | exact RR | ((repeat apply Exists.intro); refine ⟨RR, ?_⟩; and_intros <;> rfl)
      · have same : Calls Try.prog 13 #[.slice a8 L.length c7, .slice a N cap] wr fun e w' => e = .returned (.bool true) ∧ wr = w' := by
          have h := same_calls a8 a c7 cap L L wr (S8.out.below B3w.out).left (H.out.below Bw.out)
          rw [beq_self_eq_true] at h
          rw [HL.out] at h ⊢
          exact h
        rw [HNN.out] at same
        have S11 := S8.out.below B3w.out
        have hmx8 := CS.max S11
        have hf8 := F8.out
        obtain ⟨b8, o8, rfl, hc8⟩ := S11.at (by simp)
        have hc := hc8 N (by have := HL.out; simp; omega)
        rw [show (L ++ [165])[N]'(by have := HL.out; simp; omega) = 165 from by simp [← HL.out]] at hc
        rw [HNN.out] at hc hf8
        have hmx8' : (c7 : Int) ≤ 9223372036854775807 := by unfold maxLen at hmx8; omega
        have Same := hid same
        clear same S11 hc8 hmx8
        by_cases hkm : k < m.length
        · have h60' : (60 : Int) ≤ (k : Int) := by omega
          have hcell := (Hm.out.below Bw.out).get (by omega)
          obtain ⟨bm, om, rfl, hcm⟩ := hcell
          obtain ⟨x, _, hx255, hcx⟩ := hcm k hkm
          clear hcm
          go_wp2_with fail
          refine Same.out.mono ?_
          rintro e w' ⟨rfl, rfl⟩
          go_wp2_with fail
          go_ret
          exact ⟨rfl, Bw.out⟩
        · have hkm' : ¬ ((k : Int) < (m.length : Int)) := by omega
          go_wp2_with fail
          refine Same.out.mono ?_
          rintro e w' ⟨rfl, rfl⟩
          go_wp2_with fail
          go_ret
          exact ⟨rfl, Bw.out⟩
end Go.Proofs.Ytaepinficmjnpaa
