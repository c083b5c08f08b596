/- ImageRoom: an image that has just room is put, one that hasn't changes nothing; what a new one takes the old one leaves. -/
import Derived.Test.YtoapibbbooongaaDoorImgN
namespace Go.Proofs.YtoapibbbooongaaDoor
open Go.RowKit Go.Quad _root_.Quad _root_.Quad.Slab

theorem un8 {n : Int} (h : (Lit.int .u8 n).wf = true) : ∃ k : Nat, n = k ∧ k < 256 := by
  have := bounds_u8 h
  exact ⟨n.toNat, by omega, by omega⟩
def rx (K i : Nat) : Img := ⟨3, i + 1, 0, List.replicate K [], []⟩
theorem rx_right {K i : Nat} (h : 1 ≤ K ∧ K ≤ 16) : rightI (rx K i) = 0 := by
  unfold rightI rx
  dsimp only
  rw [if_neg (by simp; omega), if_neg (by simp)]
def RmSt (K i : Nat) (I : Im) : Prop := I.L = [] ∨ ∃ y, I.L = [y] ∧ y.job = 3 ∧ y.ver ≤ i ∧ y.blobs.length = K
theorem rm_step {K i S : Nat} {I : Im} (hi : Inv I) (hu : I.used.length = S) (h : RmSt K i I) (hK : 1 ≤ K ∧ K ≤ 16) (hi6 : i < 6) :
    (K + 1 ≤ leftM I.used ∧ ∃ I', putI I (rx K i) = (I', 0) ∧ Inv I' ∧ I'.used.length = S ∧ I'.sl.steps ≤ I.sl.steps + 19 ∧ RmSt K (i + 1) I' ∧ leftM I'.used + (K + 1) = S) ∨ (leftM I.used < K + 1 ∧ putI I (rx K i) = (I, 8)) := by
  have hr := rx_right (i := i) hK
  have hn : ∀ y, findI I.L 3 = some y → y.ver < i + 1 := by
    intro y hy
    obtain ⟨hm, _⟩ := find_some hy
    rcases h with h | ⟨z, h, _, hv, _⟩
    · rw [h] at hm; cases hm
    · rw [h, List.mem_singleton] at hm; subst hm; omega
  have hl : (rx K i).blobs.length = K := by simp [rx]
  by_cases hroom : K + 1 ≤ leftM I.used
  · refine .inl ⟨hroom, ?_⟩
    have hp : Puts I (rx K i) := ⟨hr, (by show 3 < 4294967296; omega), (by show i + 1 < 4294967296; omega), hn, by rw [hl]; exact hroom⟩
    obtain ⟨h1, h2, h3, h4, h5, h6, h7⟩ := hi.put hp
    have ho := set_one hi hp (by
      intro y hy
      rcases h with h | ⟨z, h, hz, _⟩
      · rw [h] at hy; cases hy
      · rw [h, List.mem_singleton] at hy; subst hy; exact hz)
    have hlo := left_one h1 ho
    rw [show (placedI I (rx K i)).blobs.length = K from hl] at hlo
    refine ⟨(putI I (rx K i)).1, by rw [← h2], h1, by omega, h6, .inr ⟨_, ho, rfl, Nat.le_refl _, hl⟩, by omega⟩
  · refine .inr ⟨by omega, putI_full (by rw [hi.up, hi.quiet.on]; simp) hr hn (by rw [hl]; omega)⟩
theorem rm_end {K i S : Nat} {I : Im} (hi : Inv I) (hu : I.used.length = S) (h : RmSt K i I) :
    (I.L.length = 0 ∧ leftM I.used = S ∧ dropI I 3 = (I, 6)) ∨ (I.L.length = 1 ∧ ∃ I', dropI I 3 = (I', 0) ∧ leftM I'.used = S ∧ dropI I' 3 = (I', 6) ∧ I'.sl.steps ≤ I.sl.steps + 2 ∧ I'.sl.way.length = 0) := by
  rcases h with h | ⟨y, h, hj, _, _⟩
  · refine .inl ⟨by rw [h]; rfl, by have := left_none hi h; omega, drop_none hi (by rw [h]; rfl)⟩
  · have hy : y ∈ I.L := by rw [h]; simp
    have hf : findI I.L 3 = some y := by rw [← hj]; exact find_key hi.sorted hy
    obtain ⟨s', q, hw, hd, hs, _, _, hdr⟩ := drop_some hi hf
    refine .inr ⟨by rw [h]; rfl, _, hdr, ?_, ?_, by show s'.steps ≤ _; omega, by show s'.way.length = 0; rw [hw]; rfl⟩
    · show leftM (freeI I.used y.at') = S
      have hlen : (freeI I.used y.at').length = I.used.length := by unfold freeI; rw [markI_len]
      have := left_of (m := freeI I.used y.at') (l := []) (by simp) (by simp) fun i hi' => by
        rw [hlen] at hi'
        have hg := markI_get i false y.at' I.used hi'
        have hg2 : (freeI I.used y.at').getD i true = _ := hg
        rw [hg2]
        constructor
        · intro h1
          split at h1
          · cases h1
          · rename_i hn
            obtain ⟨z, hz, hp⟩ := (hi.used i hi').1 h1
            rw [h, List.mem_singleton] at hz
            subst hz
            exact absurd hp hn
        · intro h1; cases h1
      rw [hlen] at this
      simp at this
      omega
    · refine dropI_none (by show ¬ (I.down || s'.off) = true; rw [hi.up, q.on]; simp) ?_
      show findI (I.L.filter fun y => y.job != 3) 3 = none
      rw [h]
      unfold findI
      simp [hj]
theorem rep_flat : ∀ K : Nat, (List.replicate K ((Value.slice none 0 0, []) : Value × List UInt8)).flatMap dD = List.replicate K (.slice none 0 0)
  | 0 => rfl
  | n + 1 => by rw [List.replicate_succ, List.flatMap_cons, rep_flat n, List.replicate_succ]; rfl
/-- so many texts without a byte -/
theorem bl_empty {w : World} {z K : Nat} {Q : Nat → Prop} (h : Blk w z (List.replicate K (.slice none 0 0)) 33) (hQ : Q z) (hK : K ≤ 16) : BL w Q (.slice (some ⟨z, 0, none⟩) K K) (List.replicate K []) := by
  refine ⟨_, K, List.replicate K (.slice none 0 0, []), by rw [List.length_replicate], ⟨?_, by unfold maxLen; omega, fun e => (by cases e), .inr ⟨z, 0, rfl, fun i v hv => ?_⟩⟩, ?_, fun x hx => ?_, fun x hx => by cases hx; exact hQ⟩
  · rw [flat_length dD 1 dD_length, List.length_replicate]; omega
  · rw [h.cell, Nat.zero_add]
    rw [rep_flat] at hv
    exact hv
  · rw [List.map_replicate]
  · obtain ⟨_, rfl⟩ := List.mem_replicate.1 hx
    exact ⟨none, 0, rfl, ⟨Nat.zero_le _, Nat.zero_le _, fun _ => rfl, .inl rfl⟩, fun y hy => by cases hy⟩
def RmTo (w : World) (e : Ending) (w' : World) : Prop := e = .returned (.bool true) ∧ Below w.heap.size w w'
def RmRel (w1 : World) (g c z q K S T : Nat) (iv : Value) (wr : World) : Prop :=
  ∃ (i : Nat) (v : Nat) (I : Im), iv = .int .u8 (i : Int) ∧ i ≤ T ∧ LX w1 [q, z] g c I wr ∧ Blk wr z (List.replicate K (.slice none 0 0)) 33 ∧ Blk wr q [.int .u32 3, .int .u32 (v : Int), .int .i64 0, .slice (some ⟨z, 0, none⟩) K K] 36 ∧ Inv I ∧ I.used.length = S ∧ I.sl.steps ≤ 19 * i ∧ RmSt K i I
set_option maxRecDepth 100000 in
set_option maxHeartbeats 20000000 in
theorem imageRoom_walk (n0 n1 n2 : Int) (w : World) (hn0 : (Lit.int .u8 n0).wf = true) (hn1 : (Lit.int .u8 n1).wf = true) (hn2 : (Lit.int .u8 n2).wf = true) (hq : Laid w) :
    Calls Tryd.prog 6 #[.int .u8 n0, .int .u8 n1, .int .u8 n2] w (RmTo w) := by
  obtain ⟨a, rfl, ha⟩ := un8 hn0
  obtain ⟨b, rfl, hb⟩ := un8 hn1
  obtain ⟨d, rfl, hd⟩ := un8 hn2
  have HQ := hid hq
  have ha' : (a : Int) ≤ 255 := by omega
  have hb' : (b : Int) ≤ 255 := by omega
  have hd' : (d : Int) ≤ 255 := by omega
  clear hn0 hn1 hn2 hq
  go_enter Tryd.func6, Tryd.ntmps6
  go_upto_region 3 with (go_at_call 11; refine (iawake_calls w HQ.out).mono ?_; rintro e w1 ⟨rfl, hb1⟩; have B1 := hid hb1; clear hb1; dsimp only)
  have L1 := hid (HQ.out.below B1.out HQ.out.1)
  go_upto_region 4 with fail
  obtain ⟨S, hS⟩ : ∃ S, 1 + a % 30 = S := ⟨_, rfl⟩
  obtain ⟨K, hK⟩ : ∃ K, 1 + b % 16 = K := ⟨_, rfl⟩
  obtain ⟨T, hT⟩ : ∃ T, 1 + d % 6 = T := ⟨_, rfl⟩
  have hS30 : 1 ≤ S ∧ S ≤ 30 := by omega
  have hK16 : 1 ≤ K ∧ K ≤ 16 := by omega
  have hT6 : T ≤ 6 := by omega
  rw [show (1 + (a : Int) % 30) = (S : Int) from by omega, show (1 + (b : Int) % 16) = (K : Int) from by omega]
  have HT := hid (show (1 + (d : Int) % 6) = (T : Int) from by omega)
  clear hS hK hT
  obtain ⟨ho, hi0⟩ := open_new (n := S) (f := 0) (t := S) (e := 1) (by omega) (by omega) (by omega) (by omega)
  have HO := hid (show openI (newL S) 0 (S : Int) 1 = _ from ho)
  have HI0 := hid hi0
  have HKK := hid hK16
  have hK' : (K : Int) ≤ 16 := by omega
  have hS' : (S : Int) ≤ 30 := by omega
  clear ho hi0
  go_upto_region 5 with (go_at_call 12; refine (sa_new w1 S (by omega)).mono ?_; rintro e w2 ⟨g, rfl, h2⟩; have S2 := hid h2; clear h2; dsimp only)
  go_upto_region 8 with (go_at_call 13; refine (ls_open w1 w2 g (newL S) 0 (S : Int) 1 _ S2.out L1.out (by decide) (by omega) (by decide) (by simp [newL]; omega) HO.out).mono ?_; rintro e w3 ⟨c, rfl, h3, hb3⟩; have L3 := hid h3; clear h3 hb3; dsimp only)
  obtain ⟨i0, hi, hz0, hz1, hz2⟩ := info_parts info_slb
  have Hi := hid hi; have Hz0 := hid hz0; have Hz1 := hid hz1; have Hz2 := hid hz2
  clear hi hz0 hz1 hz2
  go_upto_region 9 with (at_make; go_must (refine wpList_make_full _ rfl (.tmp 40) (.tmp 40) _ rfl w3.heap.size 33 i0 (.slice none 0 0) 1 under_slbs Hi.out Hz0.out Hz1.out .i64 .i64 _ _ K rfl rfl (by omega) (by omega) (by rw [Hz2.out]; omega) (by unfold maxLen; omega) (Nat.le_refl _) ?_; intro w4 hown hgr; have O4 := hid hown; have G4 := hid hgr; clear hown hgr))
  have hb4 := (show Below w3.heap.size w3 w4 from grownBy_below G4.out (Nat.le_refl _) (by simp))
  have hz4 : Blk w4 w3.heap.size (List.replicate K (.slice none 0 0)) 33 := by
    have := blk_of_owned (row_made _ (z := .slice none 0 0) rfl O4.out)
    exact this
  obtain ⟨z, hz⟩ : ∃ z, w3.heap.size = z := ⟨_, rfl⟩
  have X4 := hid (show LX w1 [z] g c _ w4 from by rw [← hz]; exact (LX.of L3.out).more hb4 w3.heap.size ⟨Nat.le_refl _, hz4.lt⟩)
  rw [hz] at hz4 ⊢
  have b5 := below_alloc w4 (.cells #[.int .u32 3, .int .u32 0, .int .i64 0, .slice (some ⟨z, 0, none⟩) K K] 36)
  have q5 := blk_alloc w4 [.int .u32 3, .int .u32 0, .int .i64 0, .slice (some ⟨z, 0, none⟩) K K] 36
  obtain ⟨q, hqq⟩ : ∃ q, w4.heap.size = q := ⟨_, rfl⟩
  have X5 := hid (show LX w1 [q, z] g c _ _ from by rw [← hqq]; exact X4.out.more b5 w4.heap.size ⟨Nat.le_refl _, by simp⟩)
  rw [hqq] at q5 ⊢
  have Z5 := hid (hz4.below b5)
  have Q5 := hid q5
  have HQZ := hid (show z ≠ q from by have := hz4.lt; omega)
  clear hb4 hz4 hz hqq b5 q5 O4 G4 Hi Hz0 Hz1 Hz2
  generalize (w4.alloc (.cells #[.int .u32 3, .int .u32 0, .int .i64 0, .slice (some ⟨z, 0, none⟩) K K] 36)) = w5 at X5 Z5 Q5 ⊢
  have R0 := hid (show RmRel w1 g c z q K S T (.int .u8 0) w5 from ⟨0, 0, _, rfl, Nat.zero_le _, X5.out, Z5.out, Q5.out, HI0.out, by simp, Nat.zero_le _, .inl rfl⟩)
  have hTi : (1 + (d : Int) % 6) = (T : Int) := HT.out
  have hT' : (T : Int) ≤ 6 := by omega
  go_cut [45, 46] from 17 to 44 (fun v45 v46 w' => v45 = .int .u8 (T : Int) ∧ v46 = .int .u8 0 ∧ w5 = w')
  case first =>
    clear hT'
    go_wp2_with fail
    have R : (Value.int .u8 (T : Int) = .int .u8 (T : Int) ∧ Value.int .u8 0 = .int .u8 0 ∧ w5 = w5) := ⟨rfl, rfl, rfl⟩
    go_meet
    first | exact R | ((repeat apply Exists.intro); refine ⟨R, ?_⟩; and_intros <;> rfl)
  obtain ⟨rfl, rfl, rfl⟩ := hcut
  clear hTi
  go_wp2_with fail
  go_loopw [14, 15, 16, 46] (fun _ _ _ iv wr => RmRel w1 g c z q K S T iv wr) (fun _ _ _ iv _ => T - (intOf iv).toNat)
  case atStart => exact R0.out
  case round =>
    obtain ⟨i, v, I, rfl, hiT, hX, hZ, hQ, hinv, hu, hst, hrm⟩ := hrel
    have XX := hid hX
    have ZZ := hid hZ
    have QQ := hid hQ
    have IV := hid hinv
    have HU := hid hu
    have HST := hid hst
    have RM := hid hrm
    have BW := hid (B1.out.trans (hX.1.mono B1.out.size))
    clear hX hZ hQ hinv hu hst hrm
    by_cases hlt : i < T
    · have hlt' : (i : Int) < (T : Int) := by omega
      have hi6 : i < 6 := by omega
      have q1 := QQ.out.get 1 rfl
      have f1 := QQ.out.free 1
      go_upto_region 13 with fail
      have hcs := chg_setCell wr q 1 (.int .u32 ((i : Int) + 1))
      have X6 := hid (XX.out.other hcs (by simp))
      have Q6 := hid (QQ.out.set 1 (.int .u32 ((i : Int) + 1)))
      have Z6 := hid (ZZ.out.keep hcs (by rw [List.mem_singleton]; exact HQZ.out))
      have Q6 := hid (show Blk _ q [.int .u32 3, .int .u32 ((i + 1 : Nat) : Int), .int .i64 0, .slice (some ⟨z, 0, none⟩) K K] 36 from by have := QQ.out.set 1 (.int .u32 ((i : Int) + 1)); exact this)
      clear hcs q1 f1
      generalize wr.setCell ⟨q, 1, none⟩ (.int .u32 ((i : Int) + 1)) = w6 at X6 Q6 Z6 ⊢
      obtain ⟨lf, hlf⟩ : ∃ lf, leftM I.used = lf := ⟨_, rfl⟩
      have hL := hid (lx_left w1 w6 [q, z] g c I X6.out)
      rw [hlf] at hL
      have hlb : lf ≤ S := by have := left_le I.used; have := HU.out; omega
      go_upto_region 14 with (go_at_call 27; refine hL.out.mono ?_; rintro e w7 ⟨rfl, rfl⟩; dsimp only)
      have CP := hid (show Calls Tryd.prog 14 #[.pointer (some ⟨c, 0, none⟩), .agg [.int .u32 3, .int .u32 ((i + 1 : Nat) : Int), .int .i64 0, .slice (some ⟨z, 0, none⟩) K K].toArray] w6 (fun e w' => e = .returned (.int .i64 ((putI I (rx K i)).2 : Int)) ∧ LX w1 [q, z] g c (putI I (rx K i)).1 w' ∧ ∀ x ∈ [q, z], w'.heap[x]? = w6.heap[x]?) from
        lx_put w1 w6 [q, z] g c I (rx K i) _ K K X6.out (bl_empty Z6.out (by simp) HKK.out.2) (show 3 < 4294967296 by omega) (show i + 1 < 4294967296 by omega) (show _ ≤ (0 : Int) ∧ (0 : Int) ≤ _ by omega) L1.out (by have := HST.out; omega) (by rw [IV.out.way]; decide))
      have hstep := rm_step IV.out HU.out RM.out HKK.out hi6
      rw [hlf] at hstep
      rcases hstep with ⟨hroom, I', hp, hinv', hu', hs', hrm', hle⟩ | ⟨hno, hp⟩
      · rw [hp] at CP
        have IV7 := hid hinv'
        have HU7 := hid hu'
        have HS7 := hid (show I'.sl.steps ≤ 19 * (i + 1) from by have := HST.out; omega)
        have RM7 := hid hrm'
        have hr' : (K : Int) + 1 ≤ (lf : Int) := by omega
        have HLE := hid hle
        dsimp only at CP
        clear hp hinv' hu' hs' hrm' hle hroom
        go_upto_region 15 with (first | (refine wpList_load_blk (o := ⟨some 56, _, _, _, _, _⟩) 36 (.tmp 13) rfl rfl q _ 36 rfl Q6.out ⟨_, Tryd.underlying36, rfl⟩ (by kernel_rfl) ?_) | (go_at_call 14; refine CP.out.mono ?_; rintro e w7 ⟨rfl, h7, hx7⟩; have X7 := hid h7; have E7 := hid hx7; clear h7 hx7; dsimp only))
        have Q7 := hid (show Blk w7 q [.int .u32 3, .int .u32 ((i + 1 : Nat) : Int), .int .i64 0, .slice (some ⟨z, 0, none⟩) K K] 36 from by have := Q6.out; unfold Blk at this ⊢; rw [E7.out q (by simp)]; exact this)
        have Z7 := hid (show Blk w7 z (List.replicate K (.slice none 0 0)) 33 from by have := Z6.out; unfold Blk at this ⊢; rw [E7.out z (by simp)]; exact this)
        obtain ⟨l7, hl7⟩ : ∃ l7, leftM I'.used = l7 := ⟨_, rfl⟩
        have hL7 := hid (lx_left w1 w7 [q, z] g c I' X7.out)
        rw [hl7] at hL7
        have h7e : (l7 : Int) = (S : Int) - (K : Int) - 1 := by have := HLE.out; omega
        have R : RmRel w1 g c z q K S T (.int .u8 ((i : Int) + 1)) w7 := ⟨i + 1, i + 1, I', rfl, hlt, X7.out, Z7.out, Q7.out, IV7.out, HU7.out, HS7.out, RM7.out⟩
        have HR := hid R
        clear R hl7
        go_wp2_with (go_at_call 27; refine hL7.out.mono ?_; rintro e w8 ⟨rfl, rfl⟩; dsimp only)
        refine ⟨?_, by simp [intOf]; omega⟩
        first | exact HR.out | ((repeat apply Exists.intro); refine ⟨HR.out, ?_⟩; and_intros <;> rfl)
      · rw [hp] at CP
        have IV7 := hid IV.out
        have HU7 := hid HU.out
        have HS7 := hid (show I.sl.steps ≤ 19 * (i + 1) from by have := HST.out; omega)
        have RM7 := hid (show RmSt K (i + 1) I from by
          rcases RM.out with h | ⟨y, h1, h2, h3, h4⟩
          · exact .inl h
          · exact .inr ⟨y, h1, h2, by omega, h4⟩)
        have hr' : ¬ ((K : Int) + 1 ≤ (lf : Int)) := by omega
        dsimp only at CP
        clear hp hno
        go_upto_region 15 with (first | (refine wpList_load_blk (o := ⟨some 56, _, _, _, _, _⟩) 36 (.tmp 13) rfl rfl q _ 36 rfl Q6.out ⟨_, Tryd.underlying36, rfl⟩ (by kernel_rfl) ?_) | (go_at_call 14; refine CP.out.mono ?_; rintro e w7 ⟨rfl, h7, hx7⟩; have X7 := hid h7; have E7 := hid hx7; clear h7 hx7; dsimp only))
        have Q7 := hid (show Blk w7 q [.int .u32 3, .int .u32 ((i + 1 : Nat) : Int), .int .i64 0, .slice (some ⟨z, 0, none⟩) K K] 36 from by have := Q6.out; unfold Blk at this ⊢; rw [E7.out q (by simp)]; exact this)
        have Z7 := hid (show Blk w7 z (List.replicate K (.slice none 0 0)) 33 from by have := Z6.out; unfold Blk at this ⊢; rw [E7.out z (by simp)]; exact this)
        have hL7 := hid (lx_left w1 w7 [q, z] g c I X7.out)
        rw [hlf] at hL7
        have R : RmRel w1 g c z q K S T (.int .u8 ((i : Int) + 1)) w7 := ⟨i + 1, i + 1, I, rfl, hlt, X7.out, Z7.out, Q7.out, IV7.out, HU7.out, HS7.out, RM7.out⟩
        have HR := hid R
        clear R hlf
        go_wp2_with (go_at_call 27; refine hL7.out.mono ?_; rintro e w8 ⟨rfl, rfl⟩; dsimp only)
        refine ⟨?_, by simp [intOf]; omega⟩
        first | exact HR.out | ((repeat apply Exists.intro); refine ⟨HR.out, ?_⟩; and_intros <;> rfl)
    · have hlt' : ¬ ((i : Int) < (T : Int)) := by omega
      have hst : I.sl.steps ≤ 1000 := by have := HST.out; omega
      have hway : I.sl.way.length = 0 := by rw [IV.out.way]; rfl
      rcases rm_end IV.out HU.out RM.out with ⟨hl0, hle, hd1⟩ | ⟨hl1, I', hd1, hle, hd2, hs2, hw2⟩
      · have hLi := lx_list w1 wr [q, z] g c I XX.out (by omega)
        unfold ListTo at hLi
        rw [hl0] at hLi
        have HLI := hid hLi
        have HLE := hid hle
        have HD1 := hid hd1
        clear hLi hle hd1 hl0
        go_upto_region 22 with (go_at_call 23; refine HLI.out.mono ?_; rintro e w7 ⟨a7, c7, rfl, _, hb7⟩; have X7 := hid (XX.out.below hb7); clear hb7; dsimp only)
        have hL7 := lx_left w1 w7 [q, z] g c I X7.out
        rw [HLE.out] at hL7
        have hD7 := lx_drop w1 w7 [q, z] g c I 3 X7.out (by decide) (by omega) (by omega)
        rw [HD1.out] at hD7
        dsimp only at hD7
        have HL7 := hid hL7
        have HD7 := hid (show Calls Tryd.prog 25 #[.pointer (some ⟨c, 0, none⟩), .int .u32 3] w7 (fun e w' => e = .returned (.int .i64 6) ∧ Below w.heap.size w w') from
          hD7.mono fun e w' ⟨h1, h2, _⟩ => ⟨h1, B1.out.trans (h2.1.mono B1.out.size)⟩)
        clear hL7 hD7
        go_wp2_with (first | (go_at_call 27; refine HL7.out.mono ?_; rintro e w8 ⟨rfl, rfl⟩; dsimp only) | (go_at_call 25; refine HD7.out.mono ?_; rintro e w9 ⟨rfl, hb9⟩; have B9 := hid hb9; clear hb9; dsimp only))
        go_ret
        exact ⟨rfl, B9.out⟩
      · have hLi := lx_list w1 wr [q, z] g c I XX.out (by omega)
        unfold ListTo at hLi
        rw [hl1] at hLi
        have HLI := hid hLi
        have HLE := hid hle
        have HD1 := hid hd1
        have HD2 := hid hd2
        have HSS := hid (And.intro hs2 hw2)
        clear hLi hle hd1 hl1 hd2 hs2 hw2
        have HDr := hid fun (W : World) (hX : LX w1 [q, z] g c I W) => (show Calls Tryd.prog 25 #[.pointer (some ⟨c, 0, none⟩), .int .u32 3] W (fun e w' => e = .returned (.int .i64 0) ∧ LX w1 [q, z] g c I' w') from by
          have := lx_drop w1 W [q, z] g c I 3 hX (by decide) (by omega) (by omega)
          rw [HD1.out] at this
          exact this.mono fun e w' ⟨h1, h2, _⟩ => ⟨h1, h2⟩)
        go_upto_region 22 with (first | (go_at_call 23; refine HLI.out.mono ?_; rintro e w7 ⟨a7, c7, rfl, _, hb7⟩; have X7 := hid (XX.out.below hb7); clear hb7; dsimp only) | (go_at_call 25; refine (HDr.out w7 X7.out).mono ?_; rintro e w8 ⟨rfl, h8⟩; have X8 := hid h8; clear h8; dsimp only))
        have hL7 := lx_left w1 w8 [q, z] g c I' X8.out
        rw [HLE.out] at hL7
        have hD7 := lx_drop w1 w8 [q, z] g c I' 3 X8.out (by decide) (by have := HSS.out.1; omega) (by have := HSS.out.2; omega)
        rw [HD2.out] at hD7
        dsimp only at hD7
        have HL7 := hid hL7
        have HD7 := hid (show Calls Tryd.prog 25 #[.pointer (some ⟨c, 0, none⟩), .int .u32 3] w8 (fun e w' => e = .returned (.int .i64 6) ∧ Below w.heap.size w w') from
          hD7.mono fun e w' ⟨h1, h2, _⟩ => ⟨h1, B1.out.trans (h2.1.mono B1.out.size)⟩)
        clear hL7 hD7 HDr
        go_wp2_with (first | (go_at_call 27; refine HL7.out.mono ?_; rintro e w9 ⟨rfl, rfl⟩; dsimp only) | (go_at_call 25; refine HD7.out.mono ?_; rintro e w9 ⟨rfl, hb9⟩; have B9 := hid hb9; clear hb9; dsimp only))
        go_ret
        exact ⟨rfl, B9.out⟩
end Go.Proofs.YtoapibbbooongaaDoor
