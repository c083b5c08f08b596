/- ImageNewest: of whatever versions are put the newest is told, and one that isn't newer is refused. -/
import Derived.Test.YtoapibbbooongaaDoorImgW

namespace Go.Proofs.YtoapibbbooongaaDoor
open Go.RowKit Go.Quad _root_.Quad _root_.Quad.Slab

theorem un32 {n : Int} (h : (Lit.int .u32 n).wf = true) : ∃ k : Nat, n = k ∧ k < 4294967296 := by
  have := bounds_u32 h
  exact ⟨n.toNat, by omega, by omega⟩
def uI (k : Nat) : List Value := [.int .u32 (k : Int)]
theorem uI_length (k : Nat) : (uI k).length = 1 := rfl
theorem vers_open {w : World} {v : Value} (h : RV Tryd.prog w 22 v) :
    ∃ (a : Option Addr) (cap : Nat) (l : List Nat), v = .slice a l.length cap ∧ (∀ r ∈ l, r < 4294967296) ∧ CS w a cap 1 (l.flatMap uI) ∧ l.length ≤ cap := by
  obtain ⟨a, cap, E, rfl, hE, hl, hc⟩ := h.slice Tryd.underlying22 1 (by kernel_rfl) (by decide)
  have key : ∀ E : List (List Value), (∀ x ∈ E, x.length = 1 ∧ RC Tryd.prog w 31 x) → ∃ l : List Nat, l.length = E.length ∧ E.flatten = l.flatMap uI ∧ ∀ r ∈ l, r < 4294967296 := by
    intro E
    induction E with
    | nil => intro _; exact ⟨[], rfl, rfl, by simp⟩
    | cons x E ih =>
      intro h
      obtain ⟨l, h1, h2, h3⟩ := ih fun y hy => h y (List.mem_cons_of_mem _ hy)
      obtain ⟨o, ho, hok⟩ := (h x (List.mem_cons_self ..)).2.int Tryd.underlying31
      obtain ⟨k, rfl, hk⟩ := un32 hok
      exact ⟨k :: l, by simp [h1], by rw [List.flatten_cons, h2, ho, List.flatMap_cons]; rfl, fun q hq => by
        rcases List.mem_cons.1 hq with rfl | hq
        · exact hk
        · exact h3 q hq⟩
  obtain ⟨l, h1, h2, h3⟩ := key E hE
  rw [h2] at hc
  rw [← h1] at hl ⊢
  exact ⟨a, cap, l, rfl, h3, hc, hl⟩
/-- what has been put so far -/
def NwSt (best : Nat) (some' : Bool) (I : Im) : Prop := (some' = false ∧ I.L = []) ∨ (some' = true ∧ ∃ y, I.L = [y] ∧ y.job = 5 ∧ y.ver = best)
def NwRel (w : World) (g c m : Nat) (bv sv iv : Value) (wr : World) : Prop :=
  ∃ (i best : Nat) (some' : Bool) (I : Im), iv = .int .i64 (i : Int) ∧ i ≤ m ∧ i ≤ 30 ∧ bv = .int .u32 (best : Int) ∧ sv = .bool some' ∧ LS w wr.heap.size g c I wr ∧ Inv I ∧ I.used.length = 30 ∧ I.sl.steps ≤ 19 * i ∧ NwSt best some' I
def nx (i v : Nat) : Img := ⟨5, v, (i : Int), [[UInt8.ofNat i], []], []⟩
theorem nx_right {i v : Nat} (hi : i < 30) : rightI (nx i v) = 0 := by
  unfold rightI nx
  dsimp only
  rw [if_neg (by simp; omega), if_neg (by simp)]
theorem nw_room {best : Nat} {some' : Bool} {I : Im} (hi : Inv I) (hu : I.used.length = 30) (h : NwSt best some' I) : 3 ≤ leftM I.used := by
  rcases h with ⟨_, h⟩ | ⟨_, y, h, _⟩
  · have := left_none hi h; omega
  · have := left_one hi h
    have := (hi.ok y (by rw [h]; simp)).few
    omega
theorem nw_same {best : Nat} {some' : Bool} {I : Im} (h : NwSt best some' I) : ∀ y ∈ I.L, y.job = 5 := by
  rcases h with ⟨_, h⟩ | ⟨_, y, h, h5, _⟩
  · rw [h]; simp
  · rw [h]; intro z hz; rw [List.mem_singleton] at hz; rw [hz]; exact h5
/-- a version is put: it is newer, and told; or it isn't -/
theorem nw_step {best i v : Nat} {some' : Bool} {I : Im} (hi : Inv I) (hu : I.used.length = 30) (h : NwSt best some' I) (h30 : i < 30) (hv : v < 4294967296) :
    ((some' = false ∨ best < v) ∧ ∃ I', putI I (nx i v) = (I', 0) ∧ Inv I' ∧ I'.used.length = 30 ∧ I'.sl.steps ≤ I.sl.steps + 19 ∧ NwSt v true I' ∧ ∃ y, findI I'.L 5 = some y ∧ y.ver = v) ∨
    (some' = true ∧ v ≤ best ∧ putI I (nx i v) = (I, 12) ∧ ∃ y, findI I.L 5 = some y ∧ y.ver = best) := by
  have hr := nx_right (v := v) h30
  have hroom := nw_room hi hu h
  have hyes : (∀ y, findI I.L 5 = some y → y.ver < v) → ∃ I', putI I (nx i v) = (I', 0) ∧ Inv I' ∧ I'.used.length = 30 ∧ I'.sl.steps ≤ I.sl.steps + 19 ∧ NwSt v true I' ∧ ∃ y, findI I'.L 5 = some y ∧ y.ver = v := by
    intro hn
    have hp : Puts I (nx i v) := ⟨hr, (by show 5 < 4294967296; omega), hv, hn, hroom⟩
    obtain ⟨h1, h2, h3, h4, h5, h6, h7⟩ := hi.put hp
    have ho := set_one hi hp (nw_same h)
    have hf := find_set hi hp
    refine ⟨(putI I (nx i v)).1, by rw [← h2], h1, by omega, h6, .inr ⟨rfl, _, ho, rfl, rfl⟩, _, hf, rfl⟩
  rcases h with ⟨h0, hL⟩ | ⟨h0, y, hL, h5, hvb⟩
  · exact .inl ⟨.inl h0, hyes fun y hy => by rw [hL] at hy; cases hy⟩
  · have hf : findI I.L 5 = some y := by rw [← h5]; exact find_key hi.sorted (by rw [hL]; simp)
    by_cases hb : best < v
    · exact .inl ⟨.inr hb, hyes fun z hz => by rw [hf] at hz; cases hz; omega⟩
    · refine .inr ⟨h0, by omega, putI_stale (y := y) (by rw [hi.up, hi.quiet.on]; simp) hr hf (by show v ≤ y.ver; omega), y, hf, hvb⟩
/-- two texts: one of one byte, and none -/
theorem bl_two (w : World) (b : UInt8) : BL ((w.alloc (.cells #[u8v b] 5)).alloc (.cells #[.slice (some ⟨w.heap.size, 0, none⟩) 1 1, .slice none 0 0] 33)) (fun k => w.heap.size ≤ k) (.slice (some ⟨w.heap.size + 1, 0, none⟩) 2 2) [[b], []] := by
  have h1 := cs_lit w [u8v b] 5 1 1 rfl (by simp [maxLen])
  have h2 := cs_lit (w.alloc (.cells #[u8v b] 5)) [.slice (some ⟨w.heap.size, 0, none⟩) 1 1, .slice none 0 0] 33 2 1 rfl (by simp [maxLen])
  have hz : (w.alloc (.cells #[u8v b] 5)).heap.size = w.heap.size + 1 := by simp
  rw [hz] at h2
  refine ⟨_, 2, [(.slice (some ⟨w.heap.size, 0, none⟩) 1 1, [b]), (.slice none 0 0, [])], rfl, h2, rfl, fun x hx => ?_, fun x hx => by cases hx; dsimp only; omega⟩
  simp only [List.mem_cons, List.not_mem_nil, or_false] at hx
  rcases hx with rfl | rfl
  · exact ⟨_, 1, rfl, bs_keep (show BS _ _ 1 [b] from h1) (Chg.of_below [] (below_alloc _ _)) (.inr (by simp)), fun x hx => by cases hx; exact Nat.le_refl _⟩
  · exact ⟨none, 0, rfl, ⟨Nat.zero_le _, Nat.zero_le _, fun _ => rfl, .inl rfl⟩, fun x hx => by cases hx⟩
def NwTo (w : World) (e : Ending) (w' : World) : Prop := e = .returned (.bool true) ∧ Below w.heap.size w w'
set_option maxRecDepth 100000 in
set_option maxHeartbeats 20000000 in
theorem imageNewest_walk (v0 : Value) (w : World) (h0 : RV Tryd.prog w 22 v0) (hq : Laid w) :
    Calls Tryd.prog 3 #[v0] w (NwTo w) := by
  obtain ⟨ad, cp, l, rfl, hok, hcs, hlc⟩ := vers_open h0
  have HQ := hid hq
  have HOK := hid hok
  have HCS := hid hcs
  have hm : (l.length : Int) ≤ 9223372036854775807 := by have := hcs.max; unfold maxLen at this; omega
  obtain ⟨ho, hi0⟩ := open_new (n := 30) (f := 0) (t := 30) (e := 1) (by omega) (by omega) (by omega) (by omega)
  have HO := hid ho
  have HI0 := hid hi0
  clear h0 hq hok hcs ho hi0 hlc
  go_enter Tryd.func3, Tryd.ntmps3
  go_upto_region 3 with (go_at_call 11; refine (iawake_calls w HQ.out).mono ?_; rintro e w1 ⟨rfl, hb1⟩; have B1 := hid hb1; clear hb1; dsimp only)
  have L1 := hid (HQ.out.below B1.out HQ.out.1)
  go_upto_region 4 with (go_at_call 12; refine (sa_new w1 30 (by decide)).mono ?_; rintro e w2 ⟨g, rfl, h2⟩; have S2 := hid h2; clear h2; dsimp only)
  go_upto_region 5 with (go_at_call 13; refine (ls_open w1 w2 g (newL 30) 0 30 1 _ S2.out L1.out (by decide) (by decide) (by decide) (by decide) HO.out).mono ?_; rintro e w3 ⟨c, rfl, h3, hb3⟩; have L3 := hid h3; clear h3 hb3; dsimp only)
  have R0 := hid (show NwRel w1 g c l.length (.int .u32 0) (.bool false) (.int .i64 0) w3 from ⟨0, 0, false, _, rfl, Nat.zero_le _, by omega, rfl, rfl, L3.out, HI0.out, by simp, Nat.zero_le _, .inl ⟨rfl, rfl⟩⟩)
  go_wp2_with fail
  go_loopw [7, 8, 9, 10, 11, 12, 13, 29] (fun bv sv _ _ _ _ _ iv wr => NwRel w1 g c l.length bv sv iv wr) (fun _ _ _ _ _ _ _ iv _ => l.length - (intOf iv).toNat)
  case atStart => exact R0.out
  case round =>
    obtain ⟨i, best, so, I, rfl, hil, hi30, rfl, rfl, hls, hinv, hu, hst, hnw⟩ := hrel
    have LSr := hid hls
    have IV := hid hinv
    have HU := hid hu
    have HST := hid hst
    have NW := hid hnw
    clear hls hinv hu hst hnw
    have bwr := hid (B1.out.trans (LSr.out.1.mono B1.out.size))
    by_cases hlt : i < l.length
    · have hlt' : (i : Int) < (l.length : Int) := by omega
      obtain ⟨b, off, rfl, hcell⟩ := cs_row uI_length HCS.out hlt (by decide)
      have hv := HOK.out l[i] (List.getElem_mem hlt)
      have d0 := cell_later bwr.out (hcell 0 _ rfl)
      rw [Nat.add_zero, Nat.mul_one] at d0
      obtain ⟨v, hve⟩ : ∃ v, l[i] = v := ⟨_, rfl⟩
      rw [hve] at d0 hv
      clear hcell hve
      by_cases h30 : i = 30
      · have h30' : (30 : Int) ≤ (i : Int) := by omega
        clear h30
        go_wp2_with fail

        go_ret
        exact ⟨rfl, bwr.out⟩
      have h30' : ¬ ((30 : Int) ≤ (i : Int)) := by omega
      have hi' : i < 30 := by omega
      have hi8 : (i : Int) ≤ 29 := by omega
      have CP := hid (show Calls Tryd.prog 14 #[.pointer (some ⟨c, 0, none⟩), .agg #[.int .u32 5, .int .u32 (v : Int), .int .i64 (i : Int), .slice (some ⟨wr.heap.size + 1, 0, none⟩) 2 2]] ((wr.alloc (.cells #[.int .u8 (i : Int)] 5)).alloc (.cells #[.slice (some ⟨wr.heap.size, 0, none⟩) 1 1, .slice none 0 0] 33)) (fun e w' => e = .returned (.int .i64 ((putI I (nx i v)).2 : Int)) ∧ LS w1 w'.heap.size g c (putI I (nx i v)).1 w') from by
        have hb := (below_alloc wr (.cells #[u8v (UInt8.ofNat i)] 5)).trans ((below_alloc (wr.alloc (.cells #[u8v (UInt8.ofNat i)] 5)) (.cells #[.slice (some ⟨wr.heap.size, 0, none⟩) 1 1, .slice none 0 0] 33)).mono (below_alloc wr _).size)
        have := ls_put w1 _ wr.heap.size g c I (nx i v) _ _ _ (LSr.out.below hb) (bl_two wr (UInt8.ofNat i)) (show 5 < 4294967296 by omega) hv (show _ ≤ (i : Int) ∧ (i : Int) ≤ _ by omega) L1.out (by have := HST.out; omega) (by rw [IV.out.way]; decide)
        rw [u8v_of' i (by omega)] at this
        exact this)
      have hstep := nw_step IV.out HU.out NW.out hi' hv
      rcases hstep with ⟨hnew, I', hp, hinv', hu', hs', hnw', y, hf, hyv⟩ | ⟨hso, hvb, hp, y, hf, hyv⟩
      · rw [hp] at CP
        have IV4 := hid hinv'
        have HU4 := hid hu'
        have HS4 := hid (show I'.sl.steps ≤ 19 * (i + 1) from by have := HST.out; omega)
        have NW4 := hid hnw'
        have FY := hid (And.intro hf hyv)
        dsimp only at CP
        clear hp hinv' hu' hs' hnw' hf hyv
        cases so with
        | false =>
          clear hnew
          go_upto_region 13 with (go_at_call 14; refine CP.out.mono ?_; rintro e w4 ⟨rfl, h4⟩; have L4 := hid h4; clear h4; dsimp only)
          have hG2 := hid (show Calls Tryd.prog 15 #[.pointer (some ⟨c, 0, none⟩), .int .u32 5] w4 (fun e w' => Below w4.heap.size w4 w' ∧ ∃ j cr a n cc, e = .returned (.tuple #[.agg #[.int .u32 (j : Int), .int .u32 (v : Int), .int .i64 cr, .slice a n cc], .int .i64 0])) from by
            have hG := ls_get w1 w4 w4.heap.size g c I' L4.out (fun x hx b hb => Nat.le_trans ((IV4.out.ok x hx).small b hb) (by omega)) 5 (by decide)
            rw [FY.out.1] at hG
            exact hG.mono fun e w' ⟨hb7, ts, bv, he, hts, htx⟩ => by
              obtain ⟨a7, n7, c7, hbe, _, _, _⟩ := htx.rb.cs
              subst hbe
              exact ⟨hb7, y.job, y.credit, a7, n7, c7, by rw [he, ← FY.out.2]; rfl⟩)
          go_upto_region 18 with (go_at_call 15; refine hG2.out.mono ?_; rintro e w7 ⟨hb7, j7, cr7, a7, n7, c7, rfl⟩; have L7 := hid (L4.out.below hb7); clear hb7; dsimp only)
          have L8 := hid (loadLS _ _ _ _ _ _ (L7.out.below (below_alloc w7 (.cells #[.int .u32 (j7 : Int), .int .u32 (v : Int), .int .i64 cr7, .slice a7 n7 c7] 36))))
          have x8 := blk_alloc w7 [.int .u32 (j7 : Int), .int .u32 (v : Int), .int .i64 cr7, .slice a7 n7 c7] 36
          obtain ⟨q8, hq8⟩ : ∃ q8, w7.heap.size = q8 := ⟨_, rfl⟩
          rw [hq8] at x8 ⊢
          have k1 := x8.get 1 rfl
          clear x8 hq8 d0 CP
          generalize (w7.alloc (.cells #[.int .u32 (j7 : Int), .int .u32 (v : Int), .int .i64 cr7, .slice a7 n7 c7] 36)) = w8 at L8 k1 ⊢
          have R : NwRel w1 g c l.length (.int .u32 (v : Int)) (.bool true) (.int .i64 ((i : Int) + 1)) w8 := ⟨i + 1, v, true, I', rfl, hlt, by omega, rfl, rfl, L8.out, IV4.out, HU4.out, HS4.out, NW4.out⟩
          have HR := hid R
          clear R
          go_wp2_with fail
          refine ⟨?_, by simp [intOf]; omega⟩
          first | exact HR.out | ((repeat apply Exists.intro); refine ⟨HR.out, ?_⟩; and_intros <;> rfl)
        | true =>
          have hb' : (best : Int) < (v : Int) := by rcases hnew with h | h; cases h; omega
          clear hnew
          go_upto_region 13 with (go_at_call 14; refine CP.out.mono ?_; rintro e w4 ⟨rfl, h4⟩; have L4 := hid h4; clear h4; dsimp only)
          have hG2 := hid (show Calls Tryd.prog 15 #[.pointer (some ⟨c, 0, none⟩), .int .u32 5] w4 (fun e w' => Below w4.heap.size w4 w' ∧ ∃ j cr a n cc, e = .returned (.tuple #[.agg #[.int .u32 (j : Int), .int .u32 (v : Int), .int .i64 cr, .slice a n cc], .int .i64 0])) from by
            have hG := ls_get w1 w4 w4.heap.size g c I' L4.out (fun x hx b hb => Nat.le_trans ((IV4.out.ok x hx).small b hb) (by omega)) 5 (by decide)
            rw [FY.out.1] at hG
            exact hG.mono fun e w' ⟨hb7, ts, bv, he, hts, htx⟩ => by
              obtain ⟨a7, n7, c7, hbe, _, _, _⟩ := htx.rb.cs
              subst hbe
              exact ⟨hb7, y.job, y.credit, a7, n7, c7, by rw [he, ← FY.out.2]; rfl⟩)
          go_upto_region 18 with (go_at_call 15; refine hG2.out.mono ?_; rintro e w7 ⟨hb7, j7, cr7, a7, n7, c7, rfl⟩; have L7 := hid (L4.out.below hb7); clear hb7; dsimp only)
          have L8 := hid (loadLS _ _ _ _ _ _ (L7.out.below (below_alloc w7 (.cells #[.int .u32 (j7 : Int), .int .u32 (v : Int), .int .i64 cr7, .slice a7 n7 c7] 36))))
          have x8 := blk_alloc w7 [.int .u32 (j7 : Int), .int .u32 (v : Int), .int .i64 cr7, .slice a7 n7 c7] 36
          obtain ⟨q8, hq8⟩ : ∃ q8, w7.heap.size = q8 := ⟨_, rfl⟩
          rw [hq8] at x8 ⊢
          have k1 := x8.get 1 rfl
          clear x8 hq8 d0 CP
          generalize (w7.alloc (.cells #[.int .u32 (j7 : Int), .int .u32 (v : Int), .int .i64 cr7, .slice a7 n7 c7] 36)) = w8 at L8 k1 ⊢
          have R : NwRel w1 g c l.length (.int .u32 (v : Int)) (.bool true) (.int .i64 ((i : Int) + 1)) w8 := ⟨i + 1, v, true, I', rfl, hlt, by omega, rfl, rfl, L8.out, IV4.out, HU4.out, HS4.out, NW4.out⟩
          have HR := hid R
          clear R
          go_wp2_with fail
          refine ⟨?_, by simp [intOf]; omega⟩
          first | exact HR.out | ((repeat apply Exists.intro); refine ⟨HR.out, ?_⟩; and_intros <;> rfl)
      · subst hso
        have hvb' : ¬ ((best : Int) < (v : Int)) := by omega
        rw [hp] at CP
        have IV4 := hid IV.out
        have HU4 := hid HU.out
        have HS4 := hid (show I.sl.steps ≤ 19 * (i + 1) from by have := HST.out; omega)
        have NW4 := hid NW.out
        have FY := hid (And.intro hf hyv)
        dsimp only at CP
        clear hp hvb hf hyv
        go_upto_region 13 with (go_at_call 14; refine CP.out.mono ?_; rintro e w4 ⟨rfl, h4⟩; have L4 := hid h4; clear h4; dsimp only)
        have hG2 := hid (show Calls Tryd.prog 15 #[.pointer (some ⟨c, 0, none⟩), .int .u32 5] w4 (fun e w' => Below w4.heap.size w4 w' ∧ ∃ j cr a n cc, e = .returned (.tuple #[.agg #[.int .u32 (j : Int), .int .u32 (best : Int), .int .i64 cr, .slice a n cc], .int .i64 0])) from by
          have hG := ls_get w1 w4 w4.heap.size g c I L4.out (fun x hx b hb => Nat.le_trans ((IV4.out.ok x hx).small b hb) (by omega)) 5 (by decide)
          rw [FY.out.1] at hG
          exact hG.mono fun e w' ⟨hb7, ts, bv, he, hts, htx⟩ => by
            obtain ⟨a7, n7, c7, hbe, _, _, _⟩ := htx.rb.cs
            subst hbe
            exact ⟨hb7, y.job, y.credit, a7, n7, c7, by rw [he, ← FY.out.2]; rfl⟩)
        go_upto_region 18 with (go_at_call 15; refine hG2.out.mono ?_; rintro e w7 ⟨hb7, j7, cr7, a7, n7, c7, rfl⟩; have L7 := hid (L4.out.below hb7); clear hb7; dsimp only)
        have L8 := hid (loadLS _ _ _ _ _ _ (L7.out.below (below_alloc w7 (.cells #[.int .u32 (j7 : Int), .int .u32 (best : Int), .int .i64 cr7, .slice a7 n7 c7] 36))))
        have x8 := blk_alloc w7 [.int .u32 (j7 : Int), .int .u32 (best : Int), .int .i64 cr7, .slice a7 n7 c7] 36
        obtain ⟨q8, hq8⟩ : ∃ q8, w7.heap.size = q8 := ⟨_, rfl⟩
        rw [hq8] at x8 ⊢
        have k1 := x8.get 1 rfl
        clear x8 hq8 d0 CP
        generalize (w7.alloc (.cells #[.int .u32 (j7 : Int), .int .u32 (best : Int), .int .i64 cr7, .slice a7 n7 c7] 36)) = w8 at L8 k1 ⊢
        have R : NwRel w1 g c l.length (.int .u32 (best : Int)) (.bool true) (.int .i64 ((i : Int) + 1)) w8 := ⟨i + 1, best, true, I, rfl, hlt, by omega, rfl, rfl, L8.out, IV4.out, HU4.out, HS4.out, NW4.out⟩
        have HR := hid R
        clear R
        go_wp2_with fail
        refine ⟨?_, by simp [intOf]; omega⟩
        first | exact HR.out | ((repeat apply Exists.intro); refine ⟨HR.out, ?_⟩; and_intros <;> rfl)
    · have hlt' : ¬ ((i : Int) < (l.length : Int)) := by omega
      go_wp2_with fail
      go_ret
      exact ⟨rfl, bwr.out⟩
end Go.Proofs.YtoapibbbooongaaDoor
