/- NoteBursts: bytes of a note or a packet of which bits are turned that stand within 32 that follow one another are none. -/
import Derived.Test.YtmmcmldcbdaooaaDoorNoteV
import Derived.Deep.Cut
import Derived.Deep.CutRange
namespace Go.Proofs.YtmmcmldcbdaooaaDoor
open Go.RowKit Go.Quad _root_.Quad _root_.Quad.Ink

theorem nat_of_u16 {n : Int} (h : (Lit.int .u16 n).wf = true) : ∃ k : Nat, n = k ∧ k ≤ 65535 := by
  simp [Lit.wf, IntKind.min, IntKind.max, IntKind.signed, IntKind.bits] at h
  exact ⟨n.toNat, by omega, by omega⟩
theorem or_one (p : Nat) (h : p < 4294967296) : bits .or .u32 (p : Int) 1 = ((p ||| 1 : Nat) : Int) := u32_or_nat p 1 h (by decide)
def BuRel (w : World) (g0 : Nat) (N K : List Value) (iv : Value) (wr : World) : Prop :=
  (iv = .int .i64 0 ∨ iv = .int .i64 1 ∨ iv = .int .i64 2) ∧ Blk wr g0 N 25 ∧ Blk wr (g0 + 1) K 27 ∧ Below w.heap.size w wr

set_option maxRecDepth 100000 in
set_option maxHeartbeats 20000000 in
theorem noteBursts_walk (v0 v1 : Value) (x y : Int) (w : World) (h0 : RV Tryd.prog w 25 v0) (h1 : RV Tryd.prog w 27 v1) (hx : (Lit.int .u16 x).wf = true) (hy : (Lit.int .u32 y).wf = true) (hq : Laid w) :
    Calls Tryd.prog 6 #[v0, v1, .int .u16 x, .int .u32 y] w fun e w' => e = .returned (.bool true) ∧ Below w.heap.size w w' := by
  obtain ⟨at', rfl, hat⟩ := nat_of_u16 hx
  obtain ⟨pat, rfl, hpat⟩ := u32_of hy
  have hor := or_one pat hpat
  have Hpat := hid (show (pat ||| 1) < 4294967296 from Nat.or_lt_two_pow (n := 32) hpat (by decide))
  have hat' : (at' : Int) ≤ 65535 := by omega
  clear hx hy hpat
  obtain ⟨n1, a0, c0, rfl, ok0, hb0⟩ := note_open h0
  have F0 := hid hb0.fit'
  have m0 := hb0.max'
  obtain ⟨l0, hl0⟩ : ∃ l, n1.blob.length = l := ⟨_, rfl⟩
  obtain ⟨k0, hk0⟩ : ∃ k, min l0 100 = k := ⟨_, rfl⟩
  have K0 := hid ((nmin100 l0).trans (by rw [hk0]))
  rw [hl0] at F0 m0 ⊢
  have FK0 := hid (show k0 ≤ c0 from by have := F0.out; omega)
  have LK0 := hid (show (cutNote n1 k0).blob.length = k0 from by unfold cutNote; rw [List.length_take]; omega)
  have OK0 := hid (cutNote_ok ok0 k0)
  have HB0 := hid (show BS w a0 c0 (cutNote n1 k0).blob from hb0.take k0)
  have kb0 : (k0 : Int) ≤ 100 := by omega
  obtain ⟨x1, a1, c1, rfl, ok1, hb1⟩ := pak_open h1
  have F1 := hid hb1.fit'
  have m1 := hb1.max'
  obtain ⟨l1, hl1⟩ : ∃ l, x1.data.length = l := ⟨_, rfl⟩
  obtain ⟨k1, hk1⟩ : ∃ k, min l1 100 = k := ⟨_, rfl⟩
  have K1 := hid ((nmin100 l1).trans (by rw [hk1]))
  rw [hl1] at F1 m1 ⊢
  have FK1 := hid (show k1 ≤ c1 from by have := F1.out; omega)
  have LK1 := hid (show (cutPak x1 k1).data.length = k1 from by unfold cutPak; rw [List.length_take]; omega)
  have OK1 := hid (cutPak_ok ok1 k1)
  have HB1 := hid (show BS w a1 c1 (cutPak x1 k1).data from hb1.take k1)
  have kb1 : (k1 : Int) ≤ 100 := by omega
  have Hq := hid hq
  clear ok0 hb0 hl0 hk0 h0 ok1 hb1 hl1 hk1 h1 hq
  obtain ⟨g0, hg0⟩ : ∃ g, w.heap.size = g := ⟨_, rfl⟩
  have hb1 := below_alloc w (.cells (noteV n1 (.slice a0 l0 c0)).toArray 25)
  have hb2 := below_alloc (w.alloc (.cells (noteV n1 (.slice a0 l0 c0)).toArray 25)) (.cells (pakV x1 (.slice a1 l1 c1)).toArray 27)
  have Z0 := hid (show Blk ((w.alloc (.cells (noteV n1 (.slice a0 l0 c0)).toArray 25)).alloc (.cells (pakV x1 (.slice a1 l1 c1)).toArray 27)) g0 (noteV n1 (.slice a0 l0 c0)) 25 from by have := blk_alloc w (noteV n1 (.slice a0 l0 c0)) 25; rw [hg0] at this; exact (Blk.below this hb2))
  have Z1 := hid (show Blk ((w.alloc (.cells (noteV n1 (.slice a0 l0 c0)).toArray 25)).alloc (.cells (pakV x1 (.slice a1 l1 c1)).toArray 27)) (g0 + 1) (pakV x1 (.slice a1 l1 c1)) 27 from by have := blk_alloc (w.alloc (.cells (noteV n1 (.slice a0 l0 c0)).toArray 25)) (pakV x1 (.slice a1 l1 c1)) 27; rw [(show (w.alloc (.cells (noteV n1 (.slice a0 l0 c0)).toArray 25)).heap.size = g0 + 1 from by rw [← hg0]; simp)] at this; exact this)
  have BW := hid (show Below w.heap.size w ((w.alloc (.cells (noteV n1 (.slice a0 l0 c0)).toArray 25)).alloc (.cells (pakV x1 (.slice a1 l1 c1)).toArray 27)) from (below_step hb1 hb2))
  have GZ := hid (show g0 + 2 ≤ ((w.alloc (.cells (noteV n1 (.slice a0 l0 c0)).toArray 25)).alloc (.cells (pakV x1 (.slice a1 l1 c1)).toArray 27)).heap.size from by rw [← hg0]; simp)
  have HG := hid hg0
  clear hb1 hb2
  go_enter Tryd.func6, Tryd.ntmps6
  go_wp2_with fail
  generalize ((w.alloc (.cells (noteV n1 (.slice a0 l0 c0)).toArray 25)).alloc (.cells (pakV x1 (.slice a1 l1 c1)).toArray 27)) = w0 at Z0 Z1 BW GZ ⊢
  clear hg0
  refine (awake_calls w0 (Hq.out.below BW.out Hq.out.1)).mono ?_
  rintro e w1 ⟨rfl, hb⟩
  replace Z0 := hid (Z0.out.below hb)
  replace Z1 := hid (Z1.out.below hb)
  replace BW := hid (BW.out.trans (hb.mono BW.out.size))
  replace GZ := hid (Nat.le_trans GZ.out hb.size)
  clear hb
  go_upto_region 3 with fail
  have S0 := hid (show CutSt [(g0, (noteV n1 (.slice a0 l0 c0)), (noteV (cutNote n1 k0) (.slice a0 k0 c0)), 25), ((g0 + 1), (pakV x1 (.slice a1 l1 c1)), (pakV (cutPak x1 k1) (.slice a1 k1 c1)), 27)] g0 w 0 w1 from by
    refine ⟨fun j e he => ?_, by have := BW.out; rw [HG.out] at this; exact this, by have := GZ.out; omega⟩
    match j, he with
    | 0, he => cases he; exact Z0.out
    | 1, he => cases he; exact Z1.out
    | _ + 2, he => simp at he)
  refine wp_region_st 22 1 [.r 0 0, .r 0 0, .r 0 0, .r 0 0, .r 0 0, .r 0 0, .r 0 0, .r 0 1, .r 0 1, .r 0 1, .r 0 1, .r 0 1, .r 0 1, .r 0 1, .r 0 1, .w 0, .r 0 1] (CutSt [(g0, (noteV n1 (.slice a0 l0 c0)), (noteV (cutNote n1 k0) (.slice a0 k0 c0)), 25), ((g0 + 1), (pakV x1 (.slice a1 l1 c1)), (pakV (cutPak x1 k1) (.slice a1 k1 c1)), 27)] g0 w) (fun _ _ => True) (fun idx v w' => match idx with
    | 0 => v = .pointer (some ⟨g0, 12, none⟩)
    | 1 => v = .slice a0 l0 c0
    | 2 => v = .pointer (some ⟨g0, 12, none⟩)
    | 3 => v = .slice a0 l0 c0
    | 4 => v = .int .i64 (l0 : Int)
    | 5 => v = .int .i64 (k0 : Int)
    | 6 => v = .slice a0 k0 c0
    | 7 => v = .pointer (some ⟨(g0 + 1), 6, none⟩)
    | 8 => v = .slice a1 l1 c1
    | 9 => v = .pointer (some ⟨(g0 + 1), 6, none⟩)
    | 10 => v = .slice a1 l1 c1
    | 11 => v = .int .i64 (l1 : Int)
    | 12 => v = .int .i64 (k1 : Int)
    | 13 => v = .slice a1 k1 c1
    | 14 => v = .pointer (some ⟨g0, 12, none⟩)
    | 16 => v = .pointer (some ⟨(g0 + 1), 6, none⟩)
    | _ => True) (by kernel_rfl) (by kernel_rfl) (by kernel_rfl) (by kernel_rfl) ?_ ?_ ?_ ?_ ?_ ?_
  · intro j v wx wy hR hb
    match j, hR with
    | 0, hR | 1, hR | 2, hR | 3, hR | 4, hR | 5, hR | 6, hR | 7, hR | 8, hR | 9, hR | 10, hR | 11, hR | 12, hR | 13, hR | 14, hR | 16, hR => exact hR
    | 15, _ => trivial
    | 17, _ => trivial
    | _ + 18, _ => trivial
  · intro j v wx wy hR hb
    match j, hR with
    | 0, hR | 1, hR | 2, hR | 3, hR | 4, hR | 5, hR | 6, hR | 7, hR | 8, hR | 9, hR | 10, hR | 11, hR | 12, hR | 13, hR | 14, hR | 16, hR => exact hR
    | 15, _ => trivial
    | 17, _ => trivial
    | _ + 18, _ => trivial
  · intro ph wx wy hS hb; exact hS.below hb
  · exact S0.out.below (below_drew _)
  · refine ⟨?_, ?_, ?_, ?_, ?_, ?_, ?_, ?_, ?_, ?_, ?_, ?_, ?_, ?_, ?_, ?_, ?_, trivial⟩
    all_goals intro ρ wx hc hg hf
    · intro ph _ hph hS
      intro (h0 : ρ (.tmp 4) = .pointer (some ⟨g0, 0, none⟩))
      exact opOk_run (v := .pointer (some ⟨g0, 12, none⟩)) (w' := wx) (by go_simp) ⟨Below.refl _ _, rfl⟩
    · intro ph _ hph hS
      intro (h0 : ρ (.tmp 19) = .pointer (some ⟨g0, 12, none⟩))
      have Bj := hS.1 0 _ rfl
      dsimp only at Bj
      rw [if_neg (by omega)] at Bj
      have c := Bj.get 12 rfl
      exact opOk_load _ _ rfl _ _ h0 (run_bytes_at' _ _ _ _ c) ⟨Below.refl _ _, rfl⟩
    · intro ph _ hph hS
      intro (h0 : ρ (.tmp 4) = .pointer (some ⟨g0, 0, none⟩))
      exact opOk_run (v := .pointer (some ⟨g0, 12, none⟩)) (w' := wx) (by go_simp) ⟨Below.refl _ _, rfl⟩
    · intro ph _ hph hS
      intro (h0 : ρ (.tmp 21) = .pointer (some ⟨g0, 12, none⟩))
      have Bj := hS.1 0 _ rfl
      dsimp only at Bj
      rw [if_neg (by omega)] at Bj
      have c := Bj.get 12 rfl
      exact opOk_load _ _ rfl _ _ h0 (run_bytes_at' _ _ _ _ c) ⟨Below.refl _ _, rfl⟩
    · intro ph _ hph hS
      intro (h0 : ρ (.tmp 22) = .slice a0 l0 c0)
      exact opOk_run (v := .int .i64 (l0 : Int)) (w' := wx) (by go_simp) ⟨Below.refl _ _, rfl⟩
    · intro ph _ hph hS
      intro (h0 : ρ (.tmp 23) = .int .i64 (l0 : Int))
      refine opOk_run (v := .int .i64 (k0 : Int)) (w' := wx) ?_ ⟨Below.refl _ _, rfl⟩
      have hkt := K0.out
      go_simp
    · intro ph _ hph hS
      intro (h0 : ρ (.tmp 20) = .slice a0 l0 c0) (h1 : ρ (.tmp 24) = .int .i64 (k0 : Int))
      exact opOk_bytes_head _ _ _ rfl 5 under_bytes info_u8 h0 k0 h1 FK0.out ⟨Below.refl _ _, rfl⟩
    · intro ph _ hph hS
      intro (h0 : ρ (.tmp 5) = .pointer (some ⟨(g0 + 1), 0, none⟩))
      exact opOk_run (v := .pointer (some ⟨(g0 + 1), 6, none⟩)) (w' := wx) (by go_simp) ⟨Below.refl _ _, rfl⟩
    · intro ph _ hph hS
      intro (h0 : ρ (.tmp 26) = .pointer (some ⟨(g0 + 1), 6, none⟩))
      have Bj := hS.1 1 _ rfl
      dsimp only at Bj
      rw [if_neg (by omega)] at Bj
      have c := Bj.get 6 rfl
      exact opOk_load _ _ rfl _ _ h0 (run_bytes_at' _ _ _ _ c) ⟨Below.refl _ _, rfl⟩
    · intro ph _ hph hS
      intro (h0 : ρ (.tmp 5) = .pointer (some ⟨(g0 + 1), 0, none⟩))
      exact opOk_run (v := .pointer (some ⟨(g0 + 1), 6, none⟩)) (w' := wx) (by go_simp) ⟨Below.refl _ _, rfl⟩
    · intro ph _ hph hS
      intro (h0 : ρ (.tmp 28) = .pointer (some ⟨(g0 + 1), 6, none⟩))
      have Bj := hS.1 1 _ rfl
      dsimp only at Bj
      rw [if_neg (by omega)] at Bj
      have c := Bj.get 6 rfl
      exact opOk_load _ _ rfl _ _ h0 (run_bytes_at' _ _ _ _ c) ⟨Below.refl _ _, rfl⟩
    · intro ph _ hph hS
      intro (h0 : ρ (.tmp 29) = .slice a1 l1 c1)
      exact opOk_run (v := .int .i64 (l1 : Int)) (w' := wx) (by go_simp) ⟨Below.refl _ _, rfl⟩
    · intro ph _ hph hS
      intro (h0 : ρ (.tmp 30) = .int .i64 (l1 : Int))
      refine opOk_run (v := .int .i64 (k1 : Int)) (w' := wx) ?_ ⟨Below.refl _ _, rfl⟩
      have hkt := K1.out
      go_simp
    · intro ph _ hph hS
      intro (h0 : ρ (.tmp 27) = .slice a1 l1 c1) (h1 : ρ (.tmp 31) = .int .i64 (k1 : Int))
      exact opOk_bytes_head _ _ _ rfl 5 under_bytes info_u8 h0 k1 h1 FK1.out ⟨Below.refl _ _, rfl⟩
    · intro ph _ hph hS
      intro (h0 : ρ (.tmp 4) = .pointer (some ⟨g0, 0, none⟩))
      exact opOk_run (v := .pointer (some ⟨g0, 12, none⟩)) (w' := wx) (by go_simp) ⟨Below.refl _ _, rfl⟩
    · intro hS
      intro (h0 : ρ (.tmp 33) = .pointer (some ⟨g0, 12, none⟩)) (h1 : ρ (.tmp 25) = .slice a0 k0 c0)
      have c := (hS.1 0 _ rfl).get 12 rfl
      have f := (hS.1 0 _ rfl).free 12
      exact opOk_store _ _ _ rfl _ _ h0 h1 (run_store_bytes' _ _ _ _ _ _ _ c f) ⟨trivial, hS.next g0 (noteV n1 (.slice a0 l0 c0)) (noteV (cutNote n1 k0) (.slice a0 k0 c0)) 25 12 _ rfl rfl (by omega) (by intro j e he hj; match j, he with | 0, he | 1, he => (cases he; first | exact (hj rfl).elim | (dsimp only; omega)) | _ + 2, he => simp at he), trivial⟩
    · intro ph _ hph hS
      intro (h0 : ρ (.tmp 5) = .pointer (some ⟨(g0 + 1), 0, none⟩))
      exact opOk_run (v := .pointer (some ⟨(g0 + 1), 6, none⟩)) (w' := wx) (by go_simp) ⟨Below.refl _ _, rfl⟩
  · intro wz hS
    rintro _ rfl _ rfl _ rfl _ rfl _ rfl _ rfl _ rfl _ rfl _ rfl _ rfl _ rfl _ rfl _ rfl _ rfl _ rfl _ _ _ rfl
    simp only [PutLast, Act.put, List.setIfInBounds_toArray, List.set_cons_succ, List.set_cons_zero]
    have c := (hS.1 1 _ rfl).get 6 rfl
    have f := (hS.1 1 _ rfl).free 6
    have hT := CutSt.next hS (g0 + 1) (pakV x1 (.slice a1 l1 c1)) (pakV (cutPak x1 k1) (.slice a1 k1 c1)) 27 6 (.slice a1 k1 c1) rfl rfl (by omega) (by intro j e he hj; match j, he with | 0, he | 1, he => (cases he; first | exact (hj rfl).elim | (dsimp only; omega)) | _ + 2, he => simp at he)
    refine opOk_store _ _ _ rfl _ _ rfl rfl (run_store_bytes' _ _ _ _ _ _ _ c f) ?_
    generalize wz.setCell ⟨g0 + 1, 6, none⟩ (.slice a1 k1 c1) = w2 at hT ⊢
    clear c f hS
    replace Z0 := hid (show Blk w2 g0 (noteV (cutNote n1 k0) (.slice a0 k0 c0)) 25 from hT.1 0 _ rfl)
    replace Z1 := hid (show Blk w2 (g0 + 1) (pakV (cutPak x1 k1) (.slice a1 k1 c1)) 27 from hT.1 1 _ rfl)
    replace BW := hid (show Below w.heap.size w w2 from by rw [HG.out]; exact hT.2.1)
    clear hT S0 GZ
    obtain ⟨m, hm⟩ : ∃ m, cutNote n1 k0 = m := ⟨_, rfl⟩
    obtain ⟨q, hq⟩ : ∃ q, cutPak x1 k1 = q := ⟨_, rfl⟩
    rw [hm] at LK0 OK0 HB0 Z0
    rw [hq] at LK1 OK1 HB1 Z1
    clear hm hq K0 K1 F0 F1 FK0 FK1
    go_upto_region 4 with fail
    go_wp2_with fail
    go_loopw [35] (fun iv wr => BuRel w g0 (noteV m (.slice a0 k0 c0)) (pakV q (.slice a1 k1 c1)) iv wr) (fun iv _ => 2 - (intOf iv).toNat)
    case atStart => exact ⟨.inl rfl, Z0.out, Z1.out, BW.out⟩
    case round =>
      clear Z0 Z1 BW
      obtain ⟨hi, hz0, hz1, hbw⟩ := hrel
      have Z0 := hid hz0
      have Z1 := hid hz1
      have BW := hid hbw
      clear hz0 hz1 hbw
      rcases hi with rfl | rfl | rfl
      · go_upto_region 7 with fail
        repeat (first | (refine wpList_load_blk (o := ⟨some 39, _, _, _, _, _⟩) 25 (.tmp 4) rfl rfl g0 (noteV m (.slice a0 k0 c0)) 25 rfl Z0.out ⟨_, Tryd.underlying25, rfl⟩ (by kernel_rfl) ?_) | go_step)
        obtain ⟨y3, hy0⟩ : ∃ y, (noteL m).1 = y := ⟨_, rfl⟩
        obtain ⟨e3, he0⟩ : ∃ y, (noteL m).2 = y := ⟨_, rfl⟩
        have HY3 := hid hy0
        have HE3 := hid he0
        clear hy0 he0
        have hC := refnote_calls m a0 c0 wr OK0.out (HB0.out.below BW.out) (by rw [LK0.out]; omega)
        rw [HY3.out, HE3.out, LK0.out] at hC
        refine hC.mono ?_
        rintro e w3 ⟨v, rfl, ho, hb⟩
        obtain ⟨p3, q3, r3, rfl, hn, hs, _⟩ := ob_n ho
        have P3 := hid hs
        have N3 := hid hn
        replace Z0 := hid (Z0.out.below hb)
        replace Z1 := hid (Z1.out.below hb)
        replace BW := hid (BW.out.trans (hb.mono BW.out.size))
        clear ho hs hn hb hC
        dsimp only
        go_upto_region 10 with fail
        rcases noteL_code m with ⟨f, z⟩ | ⟨f, z⟩
        case' inr =>
          obtain rfl : e3 = 4 := by rw [← HE3.out, z]
          clear f z
          go_wp2_with fail
          have R : BuRel w g0 (noteV m (.slice a0 k0 c0)) (pakV q (.slice a1 k1 c1)) (.int .i64 1) w3 := ⟨.inr (.inl rfl), Z0.out, Z1.out, BW.out⟩
          refine ⟨?_, by simp [intOf]⟩
          first | exact R | ((repeat apply Exists.intro); refine ⟨R, ?_⟩; and_intros <;> rfl)
        obtain rfl : e3 = 0 := by rw [← HE3.out, z]
        have hy : y3 = tieL (encN m) := by rw [← HY3.out, z]
        have hlen : (encN m).length ≤ 2048 := (by have := encN_len OK0.out f; omega)
        have hq6 : q3 = (encN m).length + 6 := by rw [← N3.out, hy, tieL_length]
        have Hne := hid (show (untieL (turnN (at' % (8 * q3)) (pat ||| 1) 32 y3)).2 ≠ 0 from by rw [hy]; exact untieL_burst (encN m) _ _ hlen (by rw [hq6]; exact Nat.mod_lt _ (by omega)) (or_one_bit pat))
        have q6 : (6 : Int) ≤ (q3 : Int) := by omega
        have qm : (q3 : Int) ≤ 2054 := by omega
        have E := hid (show ((at' % (8 * q3) : Nat) : Int) = (at' : Int) % (8 * (q3 : Int)) from by simp)
        have Hmod := hid (show at' % (8 * q3) ≤ 10000000 from Nat.le_trans (Nat.mod_le at' _) (by omega))
        have Hln := hid (show y3.length ≤ 1000000 from by rw [N3.out]; omega)
        clear f z hy hlen hq6
        go_wp2_with fail
        have tn := turn_calls p3 r3 y3 _ _ w3 P3.out Hln.out Hmod.out Hpat.out
        rw [N3.out, E.out] at tn
        refine tn.mono ?_
        obtain ⟨yt, hyt⟩ : ∃ y, turnN (at' % (8 * q3)) (pat ||| 1) 32 y3 = y := ⟨_, rfl⟩
        have Hlt := hid (show yt.length = q3 from by rw [← hyt, turnN_length]; exact N3.out)
        rw [hyt] at Hne
        unfold RetB
        rw [hyt]
        clear hyt
        rintro e wt ⟨v, rfl, ho, hb⟩
        obtain ⟨pt, nt, rt, rfl, hn, hs, _⟩ := ob_n ho
        have Pt := hid hs
        have Nt := hid hn
        have LBt := hid (show yt.length ≤ 100000 from by rw [Hlt.out]; omega)
        replace Z0 := hid (Z0.out.below hb)
        replace Z1 := hid (Z1.out.below hb)
        replace BW := hid (BW.out.trans (hb.mono BW.out.size))
        clear tn ho hs hn hb E Hmod Hln Hlt P3 N3 HY3 HE3
        dsimp only
        go_wp2_with fail
        have hC := readnote_calls pt rt yt wt Pt.out LBt.out (Hq.out.below BW.out Hq.out.1)
        rw [Nt.out] at hC
        unfold Gotnote at hC
        obtain ⟨d1, kk1, hd1⟩ : ∃ d k, readnoteL yt = (d, k) := ⟨_, _, rfl⟩
        rw [hd1] at hC
        have R1 := hid hd1
        clear hd1
        dsimp only at hC
        refine hC.mono ?_
        rintro e wa1 ⟨aa1, cc1, rfl, hbs, _, hch⟩
        clear hbs
        have hb := hch.below0
        clear hch
        replace Pt := hid (Pt.out.below hb)
        replace Z0 := hid (Z0.out.below hb)
        replace Z1 := hid (Z1.out.below hb)
        replace BW := hid (BW.out.trans (hb.mono BW.out.size))
        clear hb hC
        dsimp only
        have HV := hid (show (noteV d1 (.slice aa1 d1.blob.length cc1)).length = 13 from rfl)
        have HO := hid (show ∀ u ∈ (noteV d1 (.slice aa1 d1.blob.length cc1)), u.oneCell' = true from by simp [noteV, Value.oneCell'])
        obtain ⟨V1, hV1⟩ : ∃ v, (noteV d1 (.slice aa1 d1.blob.length cc1)) = v := ⟨_, rfl⟩
        rw [hV1] at HV HO ⊢
        clear hV1
        have hb3 := below_alloc wa1 (.cells [.int .u8 0, .int .u8 0, .int .u32 0, .int .u32 0, .int .u32 0, .int .u32 0, .int .u32 0, .int .u32 0, .int .u8 0, .int .i64 0, .int .u32 0, .int .u32 0, .slice none 0 0].toArray 25)
        repeat (first | (refine wpList_store_blk (o := ⟨none, _, 0, _, _, _⟩) 25 (.tmp 13) (.tmp 65) rfl rfl wa1.heap.size [.int .u8 0, .int .u8 0, .int .u32 0, .int .u32 0, .int .u32 0, .int .u32 0, .int .u32 0, .int .u32 0, .int .u8 0, .int .i64 0, .int .u32 0, .int .u32 0, .slice none 0 0] V1 25 rfl rfl (blk_alloc wa1 [.int .u8 0, .int .u8 0, .int .u32 0, .int .u32 0, .int .u32 0, .int .u32 0, .int .u32 0, .int .u32 0, .int .u8 0, .int .i64 0, .int .u32 0, .int .u32 0, .slice none 0 0] 25) HV.out (by rw [HV.out]; kernel_rfl) HO.out ?_) | go_step)
        intro wb1 hM hC
        have hcS := Chg.newer (Chg.of_below [] hb3) hC (by simp)
        have hb := hcS.below0
        replace Pt := hid (Pt.out.below hb)
        replace Z0 := hid (Z0.out.below hb)
        replace Z1 := hid (Z1.out.below hb)
        replace BW := hid (BW.out.trans (hb.mono BW.out.size))
        clear hM hC hcS hb hb3 HV HO
        go_wp2_with fail
        have hC := readpak_calls pt rt yt wb1 Pt.out LBt.out (Hq.out.below BW.out Hq.out.1)
        rw [Nt.out] at hC
        unfold Gotpak at hC
        obtain ⟨d2, kk2, hd2⟩ : ∃ d k, readpakL yt = (d, k) := ⟨_, _, rfl⟩
        rw [hd2] at hC
        have R2 := hid hd2
        clear hd2
        dsimp only at hC
        refine hC.mono ?_
        rintro e wa2 ⟨aa2, cc2, rfl, hbs, _, hch⟩
        clear hbs
        have hb := hch.below0
        clear hch
        replace Z0 := hid (Z0.out.below hb)
        replace Z1 := hid (Z1.out.below hb)
        replace BW := hid (BW.out.trans (hb.mono BW.out.size))
        clear hb hC
        dsimp only
        have HV := hid (show (pakV d2 (.slice aa2 d2.data.length cc2)).length = 7 from rfl)
        have HO := hid (show ∀ u ∈ (pakV d2 (.slice aa2 d2.data.length cc2)), u.oneCell' = true from by simp [pakV, Value.oneCell'])
        obtain ⟨V2, hV2⟩ : ∃ v, (pakV d2 (.slice aa2 d2.data.length cc2)) = v := ⟨_, rfl⟩
        rw [hV2] at HV HO ⊢
        clear hV2
        have hb3 := below_alloc wa2 (.cells [.int .u8 0, .int .u32 0, .int .u32 0, .int .u32 0, .int .u32 0, .bool false, .slice none 0 0].toArray 27)
        repeat (first | (refine wpList_store_blk (o := ⟨none, _, 0, _, _, _⟩) 27 (.tmp 15) (.tmp 70) rfl rfl wa2.heap.size [.int .u8 0, .int .u32 0, .int .u32 0, .int .u32 0, .int .u32 0, .bool false, .slice none 0 0] V2 27 rfl rfl (blk_alloc wa2 [.int .u8 0, .int .u32 0, .int .u32 0, .int .u32 0, .int .u32 0, .bool false, .slice none 0 0] 27) HV.out (by rw [HV.out]; kernel_rfl) HO.out ?_) | go_step)
        intro wb2 hM hC
        have hcS := Chg.newer (Chg.of_below [] hb3) hC (by simp)
        have hb := hcS.below0
        replace Z0 := hid (Z0.out.below hb)
        replace Z1 := hid (Z1.out.below hb)
        replace BW := hid (BW.out.trans (hb.mono BW.out.size))
        clear hM hC hcS hb hb3 HV HO
        have j1 : (kk1 == 0) = false := by have := R1.out; rw [readnote_err Hne.out] at this; have := (congrArg (·.2) this); simp only at this; rw [← this]; simpa using Hne.out
        have j2 : (kk2 == 0) = false := by have := R2.out; rw [readpak_err Hne.out] at this; have := (congrArg (·.2) this); simp only at this; rw [← this]; simpa using Hne.out
        clear R1 R2 Hne Pt Nt LBt
        go_wp2_with fail
        have R : BuRel w g0 (noteV m (.slice a0 k0 c0)) (pakV q (.slice a1 k1 c1)) (.int .i64 1) wb2 := ⟨.inr (.inl rfl), Z0.out, Z1.out, BW.out⟩
        refine ⟨?_, by simp [intOf]⟩
        first | exact R | ((repeat apply Exists.intro); refine ⟨R, ?_⟩; and_intros <;> rfl)
      · go_upto_region 7 with fail
        repeat (first | (refine wpList_load_blk (o := ⟨some 39, _, _, _, _, _⟩) 25 (.tmp 4) rfl rfl g0 (noteV m (.slice a0 k0 c0)) 25 rfl Z0.out ⟨_, Tryd.underlying25, rfl⟩ (by kernel_rfl) ?_) | go_step)
        obtain ⟨y3, hy0⟩ : ∃ y, (noteL m).1 = y := ⟨_, rfl⟩
        obtain ⟨e3, he0⟩ : ∃ y, (noteL m).2 = y := ⟨_, rfl⟩
        have HY3 := hid hy0
        have HE3 := hid he0
        clear hy0 he0
        have hC := refnote_calls m a0 c0 wr OK0.out (HB0.out.below BW.out) (by rw [LK0.out]; omega)
        rw [HY3.out, HE3.out, LK0.out] at hC
        refine hC.mono ?_
        rintro e w3 ⟨v, rfl, ho, hb⟩
        obtain ⟨p3, q3, r3, rfl, hn, hs, _⟩ := ob_n ho
        have P3 := hid hs
        have N3 := hid hn
        replace Z0 := hid (Z0.out.below hb)
        replace Z1 := hid (Z1.out.below hb)
        replace BW := hid (BW.out.trans (hb.mono BW.out.size))
        clear ho hs hn hb hC
        dsimp only
        clear HY3 HE3 P3 N3
        go_upto_region 9 with fail
        repeat (first | (refine wpList_load_blk (o := ⟨some 46, _, _, _, _, _⟩) 27 (.tmp 5) rfl rfl (g0 + 1) (pakV q (.slice a1 k1 c1)) 27 rfl Z1.out ⟨_, Tryd.underlying27, rfl⟩ (by kernel_rfl) ?_) | go_step)
        obtain ⟨y4, hy0⟩ : ∃ y, (pakL q).1 = y := ⟨_, rfl⟩
        obtain ⟨e4, he0⟩ : ∃ y, (pakL q).2 = y := ⟨_, rfl⟩
        have HY4 := hid hy0
        have HE4 := hid he0
        clear hy0 he0
        have hC := refpak_calls q a1 c1 w3 OK1.out (HB1.out.below BW.out) (by rw [LK1.out]; omega)
        rw [HY4.out, HE4.out, LK1.out] at hC
        refine hC.mono ?_
        rintro e w4 ⟨v, rfl, ho, hb⟩
        obtain ⟨p4, q4, r4, rfl, hn, hs, _⟩ := ob_n ho
        have P4 := hid hs
        have N4 := hid hn
        replace Z0 := hid (Z0.out.below hb)
        replace Z1 := hid (Z1.out.below hb)
        replace BW := hid (BW.out.trans (hb.mono BW.out.size))
        clear ho hs hn hb hC
        dsimp only
        go_upto_region 10 with fail
        rcases pakL_code q with ⟨f, z⟩ | ⟨f, z⟩
        case' inr =>
          obtain rfl : e4 = 4 := by rw [← HE4.out, z]
          clear f z
          go_wp2_with fail
          have R : BuRel w g0 (noteV m (.slice a0 k0 c0)) (pakV q (.slice a1 k1 c1)) (.int .i64 2) w4 := ⟨.inr (.inr rfl), Z0.out, Z1.out, BW.out⟩
          refine ⟨?_, by simp [intOf]⟩
          first | exact R | ((repeat apply Exists.intro); refine ⟨R, ?_⟩; and_intros <;> rfl)
        obtain rfl : e4 = 0 := by rw [← HE4.out, z]
        have hy : y4 = tieL (encP q) := by rw [← HY4.out, z]
        have hlen : (encP q).length ≤ 2048 := (encP_len OK1.out f)
        have hq6 : q4 = (encP q).length + 6 := by rw [← N4.out, hy, tieL_length]
        have Hne := hid (show (untieL (turnN (at' % (8 * q4)) (pat ||| 1) 32 y4)).2 ≠ 0 from by rw [hy]; exact untieL_burst (encP q) _ _ hlen (by rw [hq6]; exact Nat.mod_lt _ (by omega)) (or_one_bit pat))
        have q6 : (6 : Int) ≤ (q4 : Int) := by omega
        have qm : (q4 : Int) ≤ 2054 := by omega
        have E := hid (show ((at' % (8 * q4) : Nat) : Int) = (at' : Int) % (8 * (q4 : Int)) from by simp)
        have Hmod := hid (show at' % (8 * q4) ≤ 10000000 from Nat.le_trans (Nat.mod_le at' _) (by omega))
        have Hln := hid (show y4.length ≤ 1000000 from by rw [N4.out]; omega)
        clear f z hy hlen hq6
        go_wp2_with fail
        have tn := turn_calls p4 r4 y4 _ _ w4 P4.out Hln.out Hmod.out Hpat.out
        rw [N4.out, E.out] at tn
        refine tn.mono ?_
        obtain ⟨yt, hyt⟩ : ∃ y, turnN (at' % (8 * q4)) (pat ||| 1) 32 y4 = y := ⟨_, rfl⟩
        have Hlt := hid (show yt.length = q4 from by rw [← hyt, turnN_length]; exact N4.out)
        rw [hyt] at Hne
        unfold RetB
        rw [hyt]
        clear hyt
        rintro e wt ⟨v, rfl, ho, hb⟩
        obtain ⟨pt, nt, rt, rfl, hn, hs, _⟩ := ob_n ho
        have Pt := hid hs
        have Nt := hid hn
        have LBt := hid (show yt.length ≤ 100000 from by rw [Hlt.out]; omega)
        replace Z0 := hid (Z0.out.below hb)
        replace Z1 := hid (Z1.out.below hb)
        replace BW := hid (BW.out.trans (hb.mono BW.out.size))
        clear tn ho hs hn hb E Hmod Hln Hlt P4 N4 HY4 HE4
        dsimp only
        go_wp2_with fail
        have hC := readnote_calls pt rt yt wt Pt.out LBt.out (Hq.out.below BW.out Hq.out.1)
        rw [Nt.out] at hC
        unfold Gotnote at hC
        obtain ⟨d1, kk1, hd1⟩ : ∃ d k, readnoteL yt = (d, k) := ⟨_, _, rfl⟩
        rw [hd1] at hC
        have R1 := hid hd1
        clear hd1
        dsimp only at hC
        refine hC.mono ?_
        rintro e wa1 ⟨aa1, cc1, rfl, hbs, _, hch⟩
        clear hbs
        have hb := hch.below0
        clear hch
        replace Pt := hid (Pt.out.below hb)
        replace Z0 := hid (Z0.out.below hb)
        replace Z1 := hid (Z1.out.below hb)
        replace BW := hid (BW.out.trans (hb.mono BW.out.size))
        clear hb hC
        dsimp only
        have HV := hid (show (noteV d1 (.slice aa1 d1.blob.length cc1)).length = 13 from rfl)
        have HO := hid (show ∀ u ∈ (noteV d1 (.slice aa1 d1.blob.length cc1)), u.oneCell' = true from by simp [noteV, Value.oneCell'])
        obtain ⟨V1, hV1⟩ : ∃ v, (noteV d1 (.slice aa1 d1.blob.length cc1)) = v := ⟨_, rfl⟩
        rw [hV1] at HV HO ⊢
        clear hV1
        have hb3 := below_alloc wa1 (.cells [.int .u8 0, .int .u8 0, .int .u32 0, .int .u32 0, .int .u32 0, .int .u32 0, .int .u32 0, .int .u32 0, .int .u8 0, .int .i64 0, .int .u32 0, .int .u32 0, .slice none 0 0].toArray 25)
        repeat (first | (refine wpList_store_blk (o := ⟨none, _, 0, _, _, _⟩) 25 (.tmp 13) (.tmp 65) rfl rfl wa1.heap.size [.int .u8 0, .int .u8 0, .int .u32 0, .int .u32 0, .int .u32 0, .int .u32 0, .int .u32 0, .int .u32 0, .int .u8 0, .int .i64 0, .int .u32 0, .int .u32 0, .slice none 0 0] V1 25 rfl rfl (blk_alloc wa1 [.int .u8 0, .int .u8 0, .int .u32 0, .int .u32 0, .int .u32 0, .int .u32 0, .int .u32 0, .int .u32 0, .int .u8 0, .int .i64 0, .int .u32 0, .int .u32 0, .slice none 0 0] 25) HV.out (by rw [HV.out]; kernel_rfl) HO.out ?_) | go_step)
        intro wb1 hM hC
        have hcS := Chg.newer (Chg.of_below [] hb3) hC (by simp)
        have hb := hcS.below0
        replace Pt := hid (Pt.out.below hb)
        replace Z0 := hid (Z0.out.below hb)
        replace Z1 := hid (Z1.out.below hb)
        replace BW := hid (BW.out.trans (hb.mono BW.out.size))
        clear hM hC hcS hb hb3 HV HO
        go_wp2_with fail
        have hC := readpak_calls pt rt yt wb1 Pt.out LBt.out (Hq.out.below BW.out Hq.out.1)
        rw [Nt.out] at hC
        unfold Gotpak at hC
        obtain ⟨d2, kk2, hd2⟩ : ∃ d k, readpakL yt = (d, k) := ⟨_, _, rfl⟩
        rw [hd2] at hC
        have R2 := hid hd2
        clear hd2
        dsimp only at hC
        refine hC.mono ?_
        rintro e wa2 ⟨aa2, cc2, rfl, hbs, _, hch⟩
        clear hbs
        have hb := hch.below0
        clear hch
        replace Z0 := hid (Z0.out.below hb)
        replace Z1 := hid (Z1.out.below hb)
        replace BW := hid (BW.out.trans (hb.mono BW.out.size))
        clear hb hC
        dsimp only
        have HV := hid (show (pakV d2 (.slice aa2 d2.data.length cc2)).length = 7 from rfl)
        have HO := hid (show ∀ u ∈ (pakV d2 (.slice aa2 d2.data.length cc2)), u.oneCell' = true from by simp [pakV, Value.oneCell'])
        obtain ⟨V2, hV2⟩ : ∃ v, (pakV d2 (.slice aa2 d2.data.length cc2)) = v := ⟨_, rfl⟩
        rw [hV2] at HV HO ⊢
        clear hV2
        have hb3 := below_alloc wa2 (.cells [.int .u8 0, .int .u32 0, .int .u32 0, .int .u32 0, .int .u32 0, .bool false, .slice none 0 0].toArray 27)
        repeat (first | (refine wpList_store_blk (o := ⟨none, _, 0, _, _, _⟩) 27 (.tmp 15) (.tmp 70) rfl rfl wa2.heap.size [.int .u8 0, .int .u32 0, .int .u32 0, .int .u32 0, .int .u32 0, .bool false, .slice none 0 0] V2 27 rfl rfl (blk_alloc wa2 [.int .u8 0, .int .u32 0, .int .u32 0, .int .u32 0, .int .u32 0, .bool false, .slice none 0 0] 27) HV.out (by rw [HV.out]; kernel_rfl) HO.out ?_) | go_step)
        intro wb2 hM hC
        have hcS := Chg.newer (Chg.of_below [] hb3) hC (by simp)
        have hb := hcS.below0
        replace Z0 := hid (Z0.out.below hb)
        replace Z1 := hid (Z1.out.below hb)
        replace BW := hid (BW.out.trans (hb.mono BW.out.size))
        clear hM hC hcS hb hb3 HV HO
        have j1 : (kk1 == 0) = false := by have := R1.out; rw [readnote_err Hne.out] at this; have := (congrArg (·.2) this); simp only at this; rw [← this]; simpa using Hne.out
        have j2 : (kk2 == 0) = false := by have := R2.out; rw [readpak_err Hne.out] at this; have := (congrArg (·.2) this); simp only at this; rw [← this]; simpa using Hne.out
        clear R1 R2 Hne Pt Nt LBt
        go_wp2_with fail
        have R : BuRel w g0 (noteV m (.slice a0 k0 c0)) (pakV q (.slice a1 k1 c1)) (.int .i64 2) wb2 := ⟨.inr (.inr rfl), Z0.out, Z1.out, BW.out⟩
        refine ⟨?_, by simp [intOf]⟩
        first | exact R | ((repeat apply Exists.intro); refine ⟨R, ?_⟩; and_intros <;> rfl)
      · go_wp2_with fail
        go_ret
        exact ⟨rfl, BW.out⟩
end Go.Proofs.YtmmcmldcbdaooaaDoor
