/- NoteApart: two notes with the same bytes are one note; two packets one packet. -/
import Derived.Test.YtmmcmldcbdaooaaDoorNoteK
import Derived.Deep.Cut
import Derived.Deep.CutRange
namespace Go.Proofs.YtmmcmldcbdaooaaDoor
open Go.RowKit Go.Quad _root_.Quad _root_.Quad.Ink

theorem tieN_same {a b : NoteD} (ha : a.Ok) (hb : b.Ok) (fa : formN a = true) (fb : formN b = true) : (tieL (encN a) == tieL (encN b)) = sameN a b := by
  rw [Bool.eq_iff_iff, beq_iff_eq, sameN_eq]
  constructor
  · intro h
    have h1 := tieL_inj (by have := encN_len ha fa; omega) (by have := encN_len hb fb; omega) h
    have sa := formN_small fa
    have sb := formN_small fb
    obtain ⟨e1, e2⟩ := rowT_inj (l := a.nums) (m := b.nums) rfl (NoteD.small ha sa.2.2.1) (NoteD.small hb sb.2.2.1) (by omega) (by omega) h1
    obtain ⟨kind1, node1, epoch1, life1, tick1, gen1, job1, ver1, rank1, credit1, frm1, til1, blob1⟩ := a
    obtain ⟨kind2, node2, epoch2, life2, tick2, gen2, job2, ver2, rank2, credit2, frm2, til2, blob2⟩ := b
    simp only [NoteD.nums, List.cons.injEq, and_true, true_and] at e1
    dsimp only at e2 sa sb
    obtain ⟨q1, q2, q3, q4, q5, q6, q7, q8, q9, q10, q11, q12⟩ := e1
    have q10' : credit1 = credit2 := by omega
    subst q1 q2 q3 q4 q5 q6 q7 q8 q9 q10' q11 q12 e2
    rfl
  · rintro rfl; rfl

theorem tieP_same {a b : PakD} (ha : a.Ok) (hb : b.Ok) (fa : formP a = true) (fb : formP b = true) : (tieL (encP a) == tieL (encP b)) = sameP a b := by
  rw [Bool.eq_iff_iff, beq_iff_eq, sameP_eq]
  constructor
  · intro h
    have h1 := tieL_inj (encP_len ha fa) (encP_len hb fb) h
    have sa := formP_small fa
    have sb := formP_small fb
    obtain ⟨e1, e2⟩ := rowT_inj (l := a.nums) (m := b.nums) rfl (PakD.small ha) (PakD.small hb) (by omega) (by omega) h1
    obtain ⟨node1, epoch1, life1, seq1, ack1, plain1, data1⟩ := a
    obtain ⟨node2, epoch2, life2, seq2, ack2, plain2, data2⟩ := b
    simp only [PakD.nums, List.cons.injEq, and_true, true_and] at e1
    dsimp only at e2
    obtain ⟨q1, q2, q3, q4, q5, q6⟩ := e1
    have q6' : plain1 = plain2 := by revert q6; cases plain1 <;> cases plain2 <;> simp
    subst q1 q2 q3 q4 q5 q6' e2
    rfl
  · rintro rfl; rfl

def cutNote (n : NoteD) (k : Nat) : NoteD := { n with blob := n.blob.take k }
def cutPak (n : PakD) (k : Nat) : PakD := { n with data := n.data.take k }
theorem cutNote_ok {n : NoteD} (h : n.Ok) (k : Nat) : (cutNote n k).Ok := ⟨h.1, h.2, h.3, h.4, h.5, h.6, h.7, h.8, h.9, h.10, h.11, h.12⟩
theorem cutPak_ok {n : PakD} (h : n.Ok) (k : Nat) : (cutPak n k).Ok := ⟨h.1, h.2, h.3, h.4, h.5⟩
theorem noteL_code (n : NoteD) : (formN n = true ∧ noteL n = (tieL (encN n), 0)) ∨ (formN n = false ∧ noteL n = ([], 4)) := by
  unfold noteL; cases formN n <;> simp
theorem pakL_code (n : PakD) : (formP n = true ∧ pakL n = (tieL (encP n), 0)) ∨ (formP n = false ∧ pakL n = ([], 4)) := by
  unfold pakL; cases formP n <;> simp

set_option maxRecDepth 100000 in
set_option maxHeartbeats 20000000 in
theorem noteApart_walk (v0 v1 v2 v3 : Value) (w : World) (h0 : RV Tryd.prog w 25 v0) (h1 : RV Tryd.prog w 25 v1) (h2 : RV Tryd.prog w 27 v2) (h3 : RV Tryd.prog w 27 v3) (hq : Laid w) :
    Calls Tryd.prog 3 #[v0, v1, v2, v3] w fun e w' => e = .returned (.bool true) ∧ Below w.heap.size w w' := by
  obtain ⟨n1, a0, c0, rfl, ok0, hb0⟩ := note_open h0
  have F0 := hid hb0.fit'
  have m0 := hb0.max'
  obtain ⟨l0, hl0⟩ : ∃ l, n1.blob.length = l := ⟨_, rfl⟩
  obtain ⟨k0, hk0⟩ : ∃ k, min l0 100 = k := ⟨_, rfl⟩
  have K0 := hid ((nmin100 l0).trans (by rw [hk0]))
  rw [hl0] at F0 m0 ⊢
  have FK0 := hid (show k0 ≤ c0 from by have := F0.out; omega)
  have LK0 := hid (show (cutNote n1 k0).blob.length = k0 from by unfold cutNote; rw [List.length_take]; omega)
  have OK0 := hid (cutNote_ok ok0 k0)
  have HB0 := hid (show BS w a0 c0 (cutNote n1 k0).blob from hb0.take k0)
  have kb0 : (k0 : Int) ≤ 100 := by omega
  obtain ⟨n2, a1, c1, rfl, ok1, hb1⟩ := note_open h1
  have F1 := hid hb1.fit'
  have m1 := hb1.max'
  obtain ⟨l1, hl1⟩ : ∃ l, n2.blob.length = l := ⟨_, rfl⟩
  obtain ⟨k1, hk1⟩ : ∃ k, min l1 100 = k := ⟨_, rfl⟩
  have K1 := hid ((nmin100 l1).trans (by rw [hk1]))
  rw [hl1] at F1 m1 ⊢
  have FK1 := hid (show k1 ≤ c1 from by have := F1.out; omega)
  have LK1 := hid (show (cutNote n2 k1).blob.length = k1 from by unfold cutNote; rw [List.length_take]; omega)
  have OK1 := hid (cutNote_ok ok1 k1)
  have HB1 := hid (show BS w a1 c1 (cutNote n2 k1).blob from hb1.take k1)
  have kb1 : (k1 : Int) ≤ 100 := by omega
  obtain ⟨x1, a2, c2, rfl, ok2, hb2⟩ := pak_open h2
  have F2 := hid hb2.fit'
  have m2 := hb2.max'
  obtain ⟨l2, hl2⟩ : ∃ l, x1.data.length = l := ⟨_, rfl⟩
  obtain ⟨k2, hk2⟩ : ∃ k, min l2 100 = k := ⟨_, rfl⟩
  have K2 := hid ((nmin100 l2).trans (by rw [hk2]))
  rw [hl2] at F2 m2 ⊢
  have FK2 := hid (show k2 ≤ c2 from by have := F2.out; omega)
  have LK2 := hid (show (cutPak x1 k2).data.length = k2 from by unfold cutPak; rw [List.length_take]; omega)
  have OK2 := hid (cutPak_ok ok2 k2)
  have HB2 := hid (show BS w a2 c2 (cutPak x1 k2).data from hb2.take k2)
  have kb2 : (k2 : Int) ≤ 100 := by omega
  obtain ⟨x2, a3, c3, rfl, ok3, hb3⟩ := pak_open h3
  have F3 := hid hb3.fit'
  have m3 := hb3.max'
  obtain ⟨l3, hl3⟩ : ∃ l, x2.data.length = l := ⟨_, rfl⟩
  obtain ⟨k3, hk3⟩ : ∃ k, min l3 100 = k := ⟨_, rfl⟩
  have K3 := hid ((nmin100 l3).trans (by rw [hk3]))
  rw [hl3] at F3 m3 ⊢
  have FK3 := hid (show k3 ≤ c3 from by have := F3.out; omega)
  have LK3 := hid (show (cutPak x2 k3).data.length = k3 from by unfold cutPak; rw [List.length_take]; omega)
  have OK3 := hid (cutPak_ok ok3 k3)
  have HB3 := hid (show BS w a3 c3 (cutPak x2 k3).data from hb3.take k3)
  have kb3 : (k3 : Int) ≤ 100 := by omega
  have Hq := hid hq
  clear ok0 hb0 hl0 hk0 h0 ok1 hb1 hl1 hk1 h1 ok2 hb2 hl2 hk2 h2 ok3 hb3 hl3 hk3 h3 hq
  obtain ⟨g0, hg0⟩ : ∃ g, w.heap.size = g := ⟨_, rfl⟩
  have hb1 := below_alloc w (.cells (noteV n1 (.slice a0 l0 c0)).toArray 25)
  have hb2 := below_alloc (w.alloc (.cells (noteV n1 (.slice a0 l0 c0)).toArray 25)) (.cells (noteV n2 (.slice a1 l1 c1)).toArray 25)
  have hb3 := below_alloc ((w.alloc (.cells (noteV n1 (.slice a0 l0 c0)).toArray 25)).alloc (.cells (noteV n2 (.slice a1 l1 c1)).toArray 25)) (.cells (pakV x1 (.slice a2 l2 c2)).toArray 27)
  have hb4 := below_alloc (((w.alloc (.cells (noteV n1 (.slice a0 l0 c0)).toArray 25)).alloc (.cells (noteV n2 (.slice a1 l1 c1)).toArray 25)).alloc (.cells (pakV x1 (.slice a2 l2 c2)).toArray 27)) (.cells (pakV x2 (.slice a3 l3 c3)).toArray 27)
  have Z0 := hid (show Blk ((((w.alloc (.cells (noteV n1 (.slice a0 l0 c0)).toArray 25)).alloc (.cells (noteV n2 (.slice a1 l1 c1)).toArray 25)).alloc (.cells (pakV x1 (.slice a2 l2 c2)).toArray 27)).alloc (.cells (pakV x2 (.slice a3 l3 c3)).toArray 27)) g0 (noteV n1 (.slice a0 l0 c0)) 25 from by have := blk_alloc w (noteV n1 (.slice a0 l0 c0)) 25; rw [hg0] at this; exact (Blk.below (Blk.below (Blk.below this hb2) hb3) hb4))
  have Z1 := hid (show Blk ((((w.alloc (.cells (noteV n1 (.slice a0 l0 c0)).toArray 25)).alloc (.cells (noteV n2 (.slice a1 l1 c1)).toArray 25)).alloc (.cells (pakV x1 (.slice a2 l2 c2)).toArray 27)).alloc (.cells (pakV x2 (.slice a3 l3 c3)).toArray 27)) (g0 + 1) (noteV n2 (.slice a1 l1 c1)) 25 from by have := blk_alloc (w.alloc (.cells (noteV n1 (.slice a0 l0 c0)).toArray 25)) (noteV n2 (.slice a1 l1 c1)) 25; rw [(show (w.alloc (.cells (noteV n1 (.slice a0 l0 c0)).toArray 25)).heap.size = g0 + 1 from by rw [← hg0]; simp)] at this; exact (Blk.below (Blk.below this hb3) hb4))
  have Z2 := hid (show Blk ((((w.alloc (.cells (noteV n1 (.slice a0 l0 c0)).toArray 25)).alloc (.cells (noteV n2 (.slice a1 l1 c1)).toArray 25)).alloc (.cells (pakV x1 (.slice a2 l2 c2)).toArray 27)).alloc (.cells (pakV x2 (.slice a3 l3 c3)).toArray 27)) (g0 + 2) (pakV x1 (.slice a2 l2 c2)) 27 from by have := blk_alloc ((w.alloc (.cells (noteV n1 (.slice a0 l0 c0)).toArray 25)).alloc (.cells (noteV n2 (.slice a1 l1 c1)).toArray 25)) (pakV x1 (.slice a2 l2 c2)) 27; rw [(show ((w.alloc (.cells (noteV n1 (.slice a0 l0 c0)).toArray 25)).alloc (.cells (noteV n2 (.slice a1 l1 c1)).toArray 25)).heap.size = g0 + 2 from by rw [← hg0]; simp)] at this; exact (Blk.below this hb4))
  have Z3 := hid (show Blk ((((w.alloc (.cells (noteV n1 (.slice a0 l0 c0)).toArray 25)).alloc (.cells (noteV n2 (.slice a1 l1 c1)).toArray 25)).alloc (.cells (pakV x1 (.slice a2 l2 c2)).toArray 27)).alloc (.cells (pakV x2 (.slice a3 l3 c3)).toArray 27)) (g0 + 3) (pakV x2 (.slice a3 l3 c3)) 27 from by have := blk_alloc (((w.alloc (.cells (noteV n1 (.slice a0 l0 c0)).toArray 25)).alloc (.cells (noteV n2 (.slice a1 l1 c1)).toArray 25)).alloc (.cells (pakV x1 (.slice a2 l2 c2)).toArray 27)) (pakV x2 (.slice a3 l3 c3)) 27; rw [(show (((w.alloc (.cells (noteV n1 (.slice a0 l0 c0)).toArray 25)).alloc (.cells (noteV n2 (.slice a1 l1 c1)).toArray 25)).alloc (.cells (pakV x1 (.slice a2 l2 c2)).toArray 27)).heap.size = g0 + 3 from by rw [← hg0]; simp)] at this; exact this)
  have BW := hid (show Below w.heap.size w ((((w.alloc (.cells (noteV n1 (.slice a0 l0 c0)).toArray 25)).alloc (.cells (noteV n2 (.slice a1 l1 c1)).toArray 25)).alloc (.cells (pakV x1 (.slice a2 l2 c2)).toArray 27)).alloc (.cells (pakV x2 (.slice a3 l3 c3)).toArray 27)) from (below_step (below_step (below_step hb1 hb2) hb3) hb4))
  have GZ := hid (show g0 + 4 ≤ ((((w.alloc (.cells (noteV n1 (.slice a0 l0 c0)).toArray 25)).alloc (.cells (noteV n2 (.slice a1 l1 c1)).toArray 25)).alloc (.cells (pakV x1 (.slice a2 l2 c2)).toArray 27)).alloc (.cells (pakV x2 (.slice a3 l3 c3)).toArray 27)).heap.size from by rw [← hg0]; simp)
  have HG := hid hg0
  clear hb1 hb2 hb3 hb4
  go_enter Tryd.func3, Tryd.ntmps3
  go_wp2_with fail
  generalize ((((w.alloc (.cells (noteV n1 (.slice a0 l0 c0)).toArray 25)).alloc (.cells (noteV n2 (.slice a1 l1 c1)).toArray 25)).alloc (.cells (pakV x1 (.slice a2 l2 c2)).toArray 27)).alloc (.cells (pakV x2 (.slice a3 l3 c3)).toArray 27)) = w0 at Z0 Z1 Z2 Z3 BW GZ ⊢
  clear hg0
  refine (awake_calls w0 (Hq.out.below BW.out Hq.out.1)).mono ?_
  rintro e w1 ⟨rfl, hb⟩
  replace Z0 := hid (Z0.out.below hb)
  replace Z1 := hid (Z1.out.below hb)
  replace Z2 := hid (Z2.out.below hb)
  replace Z3 := hid (Z3.out.below hb)
  replace BW := hid (BW.out.trans (hb.mono BW.out.size))
  replace GZ := hid (Nat.le_trans GZ.out hb.size)
  clear hb
  go_upto_region 3 with fail
  have S0 := hid (show CutSt [(g0, (noteV n1 (.slice a0 l0 c0)), (noteV (cutNote n1 k0) (.slice a0 k0 c0)), 25), ((g0 + 1), (noteV n2 (.slice a1 l1 c1)), (noteV (cutNote n2 k1) (.slice a1 k1 c1)), 25), ((g0 + 2), (pakV x1 (.slice a2 l2 c2)), (pakV (cutPak x1 k2) (.slice a2 k2 c2)), 27), ((g0 + 3), (pakV x2 (.slice a3 l3 c3)), (pakV (cutPak x2 k3) (.slice a3 k3 c3)), 27)] g0 w 0 w1 from by
    refine ⟨fun j e he => ?_, by have := BW.out; rw [HG.out] at this; exact this, by have := GZ.out; omega⟩
    match j, he with
    | 0, he => cases he; exact Z0.out
    | 1, he => cases he; exact Z1.out
    | 2, he => cases he; exact Z2.out
    | 3, he => cases he; exact Z3.out
    | _ + 4, he => simp at he)
  refine wp_region_st 40 3 [.r 0 0, .r 0 0, .r 0 0, .r 0 0, .r 0 0, .r 0 0, .r 0 0, .r 0 1, .r 0 1, .r 0 1, .r 0 1, .r 0 1, .r 0 1, .r 0 1, .r 0 2, .r 0 2, .r 0 2, .r 0 2, .r 0 2, .r 0 2, .r 0 2, .r 0 3, .r 0 3, .r 0 3, .r 0 3, .r 0 3, .r 0 3, .r 0 3, .r 0 3, .w 0, .r 0 3, .w 1, .r 0 3, .w 2, .r 0 3] (CutSt [(g0, (noteV n1 (.slice a0 l0 c0)), (noteV (cutNote n1 k0) (.slice a0 k0 c0)), 25), ((g0 + 1), (noteV n2 (.slice a1 l1 c1)), (noteV (cutNote n2 k1) (.slice a1 k1 c1)), 25), ((g0 + 2), (pakV x1 (.slice a2 l2 c2)), (pakV (cutPak x1 k2) (.slice a2 k2 c2)), 27), ((g0 + 3), (pakV x2 (.slice a3 l3 c3)), (pakV (cutPak x2 k3) (.slice a3 k3 c3)), 27)] g0 w) (fun _ _ => True) (fun idx v w' => match idx with
    | 0 => v = .pointer (some ⟨g0, 12, none⟩)
    | 1 => v = .slice a0 l0 c0
    | 2 => v = .pointer (some ⟨g0, 12, none⟩)
    | 3 => v = .slice a0 l0 c0
    | 4 => v = .int .i64 (l0 : Int)
    | 5 => v = .int .i64 (k0 : Int)
    | 6 => v = .slice a0 k0 c0
    | 7 => v = .pointer (some ⟨(g0 + 1), 12, none⟩)
    | 8 => v = .slice a1 l1 c1
    | 9 => v = .pointer (some ⟨(g0 + 1), 12, none⟩)
    | 10 => v = .slice a1 l1 c1
    | 11 => v = .int .i64 (l1 : Int)
    | 12 => v = .int .i64 (k1 : Int)
    | 13 => v = .slice a1 k1 c1
    | 14 => v = .pointer (some ⟨(g0 + 2), 6, none⟩)
    | 15 => v = .slice a2 l2 c2
    | 16 => v = .pointer (some ⟨(g0 + 2), 6, none⟩)
    | 17 => v = .slice a2 l2 c2
    | 18 => v = .int .i64 (l2 : Int)
    | 19 => v = .int .i64 (k2 : Int)
    | 20 => v = .slice a2 k2 c2
    | 21 => v = .pointer (some ⟨(g0 + 3), 6, none⟩)
    | 22 => v = .slice a3 l3 c3
    | 23 => v = .pointer (some ⟨(g0 + 3), 6, none⟩)
    | 24 => v = .slice a3 l3 c3
    | 25 => v = .int .i64 (l3 : Int)
    | 26 => v = .int .i64 (k3 : Int)
    | 27 => v = .slice a3 k3 c3
    | 28 => v = .pointer (some ⟨g0, 12, none⟩)
    | 30 => v = .pointer (some ⟨(g0 + 1), 12, none⟩)
    | 32 => v = .pointer (some ⟨(g0 + 2), 6, none⟩)
    | 34 => v = .pointer (some ⟨(g0 + 3), 6, none⟩)
    | _ => True) (by kernel_rfl) (by kernel_rfl) (by kernel_rfl) (by kernel_rfl) ?_ ?_ ?_ ?_ ?_ ?_
  · intro j v wx wy hR hb
    match j, hR with
    | 0, hR | 1, hR | 2, hR | 3, hR | 4, hR | 5, hR | 6, hR | 7, hR | 8, hR | 9, hR | 10, hR | 11, hR | 12, hR | 13, hR | 14, hR | 15, hR | 16, hR | 17, hR | 18, hR | 19, hR | 20, hR | 21, hR | 22, hR | 23, hR | 24, hR | 25, hR | 26, hR | 27, hR | 28, hR | 30, hR | 32, hR | 34, hR => exact hR
    | 29, _ => trivial
    | 31, _ => trivial
    | 33, _ => trivial
    | 35, _ => trivial
    | _ + 36, _ => trivial
  · intro j v wx wy hR hb
    match j, hR with
    | 0, hR | 1, hR | 2, hR | 3, hR | 4, hR | 5, hR | 6, hR | 7, hR | 8, hR | 9, hR | 10, hR | 11, hR | 12, hR | 13, hR | 14, hR | 15, hR | 16, hR | 17, hR | 18, hR | 19, hR | 20, hR | 21, hR | 22, hR | 23, hR | 24, hR | 25, hR | 26, hR | 27, hR | 28, hR | 30, hR | 32, hR | 34, hR => exact hR
    | 29, _ => trivial
    | 31, _ => trivial
    | 33, _ => trivial
    | 35, _ => trivial
    | _ + 36, _ => trivial
  · intro ph wx wy hS hb; exact hS.below hb
  · exact S0.out.below (below_drew _)
  · refine ⟨?_, ?_, ?_, ?_, ?_, ?_, ?_, ?_, ?_, ?_, ?_, ?_, ?_, ?_, ?_, ?_, ?_, ?_, ?_, ?_, ?_, ?_, ?_, ?_, ?_, ?_, ?_, ?_, ?_, ?_, ?_, ?_, ?_, ?_, ?_, trivial⟩
    all_goals intro ρ wx hc hg hf
    · intro ph _ hph hS
      intro (h0 : ρ (.tmp 4) = .pointer (some ⟨g0, 0, none⟩))
      exact opOk_run (v := .pointer (some ⟨g0, 12, none⟩)) (w' := wx) (by go_simp) ⟨Below.refl _ _, rfl⟩
    · intro ph _ hph hS
      intro (h0 : ρ (.tmp 19) = .pointer (some ⟨g0, 12, none⟩))
      have Bj := hS.1 0 _ rfl
      dsimp only at Bj
      rw [if_neg (by omega)] at Bj
      have c := Bj.get 12 rfl
      exact opOk_load _ _ rfl _ _ h0 (run_bytes_at' _ _ _ _ c) ⟨Below.refl _ _, rfl⟩
    · intro ph _ hph hS
      intro (h0 : ρ (.tmp 4) = .pointer (some ⟨g0, 0, none⟩))
      exact opOk_run (v := .pointer (some ⟨g0, 12, none⟩)) (w' := wx) (by go_simp) ⟨Below.refl _ _, rfl⟩
    · intro ph _ hph hS
      intro (h0 : ρ (.tmp 21) = .pointer (some ⟨g0, 12, none⟩))
      have Bj := hS.1 0 _ rfl
      dsimp only at Bj
      rw [if_neg (by omega)] at Bj
      have c := Bj.get 12 rfl
      exact opOk_load _ _ rfl _ _ h0 (run_bytes_at' _ _ _ _ c) ⟨Below.refl _ _, rfl⟩
    · intro ph _ hph hS
      intro (h0 : ρ (.tmp 22) = .slice a0 l0 c0)
      exact opOk_run (v := .int .i64 (l0 : Int)) (w' := wx) (by go_simp) ⟨Below.refl _ _, rfl⟩
    · intro ph _ hph hS
      intro (h0 : ρ (.tmp 23) = .int .i64 (l0 : Int))
      refine opOk_run (v := .int .i64 (k0 : Int)) (w' := wx) ?_ ⟨Below.refl _ _, rfl⟩
      have hkt := K0.out
      go_simp
    · intro ph _ hph hS
      intro (h0 : ρ (.tmp 20) = .slice a0 l0 c0) (h1 : ρ (.tmp 24) = .int .i64 (k0 : Int))
      exact opOk_bytes_head _ _ _ rfl 5 under_bytes info_u8 h0 k0 h1 FK0.out ⟨Below.refl _ _, rfl⟩
    · intro ph _ hph hS
      intro (h0 : ρ (.tmp 5) = .pointer (some ⟨(g0 + 1), 0, none⟩))
      exact opOk_run (v := .pointer (some ⟨(g0 + 1), 12, none⟩)) (w' := wx) (by go_simp) ⟨Below.refl _ _, rfl⟩
    · intro ph _ hph hS
      intro (h0 : ρ (.tmp 26) = .pointer (some ⟨(g0 + 1), 12, none⟩))
      have Bj := hS.1 1 _ rfl
      dsimp only at Bj
      rw [if_neg (by omega)] at Bj
      have c := Bj.get 12 rfl
      exact opOk_load _ _ rfl _ _ h0 (run_bytes_at' _ _ _ _ c) ⟨Below.refl _ _, rfl⟩
    · intro ph _ hph hS
      intro (h0 : ρ (.tmp 5) = .pointer (some ⟨(g0 + 1), 0, none⟩))
      exact opOk_run (v := .pointer (some ⟨(g0 + 1), 12, none⟩)) (w' := wx) (by go_simp) ⟨Below.refl _ _, rfl⟩
    · intro ph _ hph hS
      intro (h0 : ρ (.tmp 28) = .pointer (some ⟨(g0 + 1), 12, none⟩))
      have Bj := hS.1 1 _ rfl
      dsimp only at Bj
      rw [if_neg (by omega)] at Bj
      have c := Bj.get 12 rfl
      exact opOk_load _ _ rfl _ _ h0 (run_bytes_at' _ _ _ _ c) ⟨Below.refl _ _, rfl⟩
    · intro ph _ hph hS
      intro (h0 : ρ (.tmp 29) = .slice a1 l1 c1)
      exact opOk_run (v := .int .i64 (l1 : Int)) (w' := wx) (by go_simp) ⟨Below.refl _ _, rfl⟩
    · intro ph _ hph hS
      intro (h0 : ρ (.tmp 30) = .int .i64 (l1 : Int))
      refine opOk_run (v := .int .i64 (k1 : Int)) (w' := wx) ?_ ⟨Below.refl _ _, rfl⟩
      have hkt := K1.out
      go_simp
    · intro ph _ hph hS
      intro (h0 : ρ (.tmp 27) = .slice a1 l1 c1) (h1 : ρ (.tmp 31) = .int .i64 (k1 : Int))
      exact opOk_bytes_head _ _ _ rfl 5 under_bytes info_u8 h0 k1 h1 FK1.out ⟨Below.refl _ _, rfl⟩
    · intro ph _ hph hS
      intro (h0 : ρ (.tmp 6) = .pointer (some ⟨(g0 + 2), 0, none⟩))
      exact opOk_run (v := .pointer (some ⟨(g0 + 2), 6, none⟩)) (w' := wx) (by go_simp) ⟨Below.refl _ _, rfl⟩
    · intro ph _ hph hS
      intro (h0 : ρ (.tmp 33) = .pointer (some ⟨(g0 + 2), 6, none⟩))
      have Bj := hS.1 2 _ rfl
      dsimp only at Bj
      rw [if_neg (by omega)] at Bj
      have c := Bj.get 6 rfl
      exact opOk_load _ _ rfl _ _ h0 (run_bytes_at' _ _ _ _ c) ⟨Below.refl _ _, rfl⟩
    · intro ph _ hph hS
      intro (h0 : ρ (.tmp 6) = .pointer (some ⟨(g0 + 2), 0, none⟩))
      exact opOk_run (v := .pointer (some ⟨(g0 + 2), 6, none⟩)) (w' := wx) (by go_simp) ⟨Below.refl _ _, rfl⟩
    · intro ph _ hph hS
      intro (h0 : ρ (.tmp 35) = .pointer (some ⟨(g0 + 2), 6, none⟩))
      have Bj := hS.1 2 _ rfl
      dsimp only at Bj
      rw [if_neg (by omega)] at Bj
      have c := Bj.get 6 rfl
      exact opOk_load _ _ rfl _ _ h0 (run_bytes_at' _ _ _ _ c) ⟨Below.refl _ _, rfl⟩
    · intro ph _ hph hS
      intro (h0 : ρ (.tmp 36) = .slice a2 l2 c2)
      exact opOk_run (v := .int .i64 (l2 : Int)) (w' := wx) (by go_simp) ⟨Below.refl _ _, rfl⟩
    · intro ph _ hph hS
      intro (h0 : ρ (.tmp 37) = .int .i64 (l2 : Int))
      refine opOk_run (v := .int .i64 (k2 : Int)) (w' := wx) ?_ ⟨Below.refl _ _, rfl⟩
      have hkt := K2.out
      go_simp
    · intro ph _ hph hS
      intro (h0 : ρ (.tmp 34) = .slice a2 l2 c2) (h1 : ρ (.tmp 38) = .int .i64 (k2 : Int))
      exact opOk_bytes_head _ _ _ rfl 5 under_bytes info_u8 h0 k2 h1 FK2.out ⟨Below.refl _ _, rfl⟩
    · intro ph _ hph hS
      intro (h0 : ρ (.tmp 7) = .pointer (some ⟨(g0 + 3), 0, none⟩))
      exact opOk_run (v := .pointer (some ⟨(g0 + 3), 6, none⟩)) (w' := wx) (by go_simp) ⟨Below.refl _ _, rfl⟩
    · intro ph _ hph hS
      intro (h0 : ρ (.tmp 40) = .pointer (some ⟨(g0 + 3), 6, none⟩))
      have Bj := hS.1 3 _ rfl
      dsimp only at Bj
      rw [if_neg (by omega)] at Bj
      have c := Bj.get 6 rfl
      exact opOk_load _ _ rfl _ _ h0 (run_bytes_at' _ _ _ _ c) ⟨Below.refl _ _, rfl⟩
    · intro ph _ hph hS
      intro (h0 : ρ (.tmp 7) = .pointer (some ⟨(g0 + 3), 0, none⟩))
      exact opOk_run (v := .pointer (some ⟨(g0 + 3), 6, none⟩)) (w' := wx) (by go_simp) ⟨Below.refl _ _, rfl⟩
    · intro ph _ hph hS
      intro (h0 : ρ (.tmp 42) = .pointer (some ⟨(g0 + 3), 6, none⟩))
      have Bj := hS.1 3 _ rfl
      dsimp only at Bj
      rw [if_neg (by omega)] at Bj
      have c := Bj.get 6 rfl
      exact opOk_load _ _ rfl _ _ h0 (run_bytes_at' _ _ _ _ c) ⟨Below.refl _ _, rfl⟩
    · intro ph _ hph hS
      intro (h0 : ρ (.tmp 43) = .slice a3 l3 c3)
      exact opOk_run (v := .int .i64 (l3 : Int)) (w' := wx) (by go_simp) ⟨Below.refl _ _, rfl⟩
    · intro ph _ hph hS
      intro (h0 : ρ (.tmp 44) = .int .i64 (l3 : Int))
      refine opOk_run (v := .int .i64 (k3 : Int)) (w' := wx) ?_ ⟨Below.refl _ _, rfl⟩
      have hkt := K3.out
      go_simp
    · intro ph _ hph hS
      intro (h0 : ρ (.tmp 41) = .slice a3 l3 c3) (h1 : ρ (.tmp 45) = .int .i64 (k3 : Int))
      exact opOk_bytes_head _ _ _ rfl 5 under_bytes info_u8 h0 k3 h1 FK3.out ⟨Below.refl _ _, rfl⟩
    · intro ph _ hph hS
      intro (h0 : ρ (.tmp 4) = .pointer (some ⟨g0, 0, none⟩))
      exact opOk_run (v := .pointer (some ⟨g0, 12, none⟩)) (w' := wx) (by go_simp) ⟨Below.refl _ _, rfl⟩
    · intro hS
      intro (h0 : ρ (.tmp 47) = .pointer (some ⟨g0, 12, none⟩)) (h1 : ρ (.tmp 25) = .slice a0 k0 c0)
      have c := (hS.1 0 _ rfl).get 12 rfl
      have f := (hS.1 0 _ rfl).free 12
      exact opOk_store _ _ _ rfl _ _ h0 h1 (run_store_bytes' _ _ _ _ _ _ _ c f) ⟨trivial, hS.next g0 (noteV n1 (.slice a0 l0 c0)) (noteV (cutNote n1 k0) (.slice a0 k0 c0)) 25 12 _ rfl rfl (by omega) (by intro j e he hj; match j, he with | 0, he | 1, he | 2, he | 3, he => (cases he; first | exact (hj rfl).elim | (dsimp only; omega)) | _ + 4, he => simp at he), trivial⟩
    · intro ph _ hph hS
      intro (h0 : ρ (.tmp 5) = .pointer (some ⟨(g0 + 1), 0, none⟩))
      exact opOk_run (v := .pointer (some ⟨(g0 + 1), 12, none⟩)) (w' := wx) (by go_simp) ⟨Below.refl _ _, rfl⟩
    · intro hS
      intro (h0 : ρ (.tmp 48) = .pointer (some ⟨(g0 + 1), 12, none⟩)) (h1 : ρ (.tmp 32) = .slice a1 k1 c1)
      have c := (hS.1 1 _ rfl).get 12 rfl
      have f := (hS.1 1 _ rfl).free 12
      exact opOk_store _ _ _ rfl _ _ h0 h1 (run_store_bytes' _ _ _ _ _ _ _ c f) ⟨trivial, hS.next (g0 + 1) (noteV n2 (.slice a1 l1 c1)) (noteV (cutNote n2 k1) (.slice a1 k1 c1)) 25 12 _ rfl rfl (by omega) (by intro j e he hj; match j, he with | 0, he | 1, he | 2, he | 3, he => (cases he; first | exact (hj rfl).elim | (dsimp only; omega)) | _ + 4, he => simp at he), trivial⟩
    · intro ph _ hph hS
      intro (h0 : ρ (.tmp 6) = .pointer (some ⟨(g0 + 2), 0, none⟩))
      exact opOk_run (v := .pointer (some ⟨(g0 + 2), 6, none⟩)) (w' := wx) (by go_simp) ⟨Below.refl _ _, rfl⟩
    · intro hS
      intro (h0 : ρ (.tmp 49) = .pointer (some ⟨(g0 + 2), 6, none⟩)) (h1 : ρ (.tmp 39) = .slice a2 k2 c2)
      have c := (hS.1 2 _ rfl).get 6 rfl
      have f := (hS.1 2 _ rfl).free 6
      exact opOk_store _ _ _ rfl _ _ h0 h1 (run_store_bytes' _ _ _ _ _ _ _ c f) ⟨trivial, hS.next (g0 + 2) (pakV x1 (.slice a2 l2 c2)) (pakV (cutPak x1 k2) (.slice a2 k2 c2)) 27 6 _ rfl rfl (by omega) (by intro j e he hj; match j, he with | 0, he | 1, he | 2, he | 3, he => (cases he; first | exact (hj rfl).elim | (dsimp only; omega)) | _ + 4, he => simp at he), trivial⟩
    · intro ph _ hph hS
      intro (h0 : ρ (.tmp 7) = .pointer (some ⟨(g0 + 3), 0, none⟩))
      exact opOk_run (v := .pointer (some ⟨(g0 + 3), 6, none⟩)) (w' := wx) (by go_simp) ⟨Below.refl _ _, rfl⟩
  · intro wz hS
    rintro _ rfl _ rfl _ rfl _ rfl _ rfl _ rfl _ rfl _ rfl _ rfl _ rfl _ rfl _ rfl _ rfl _ rfl _ rfl _ rfl _ rfl _ rfl _ rfl _ rfl _ rfl _ rfl _ rfl _ rfl _ rfl _ rfl _ rfl _ rfl _ rfl _ _ _ rfl _ _ _ rfl _ _ _ rfl
    simp only [PutLast, Act.put, List.setIfInBounds_toArray, List.set_cons_succ, List.set_cons_zero]
    have c := (hS.1 3 _ rfl).get 6 rfl
    have f := (hS.1 3 _ rfl).free 6
    have hT := CutSt.next hS (g0 + 3) (pakV x2 (.slice a3 l3 c3)) (pakV (cutPak x2 k3) (.slice a3 k3 c3)) 27 6 (.slice a3 k3 c3) rfl rfl (by omega) (by intro j e he hj; match j, he with | 0, he | 1, he | 2, he | 3, he => (cases he; first | exact (hj rfl).elim | (dsimp only; omega)) | _ + 4, he => simp at he)
    refine opOk_store _ _ _ rfl _ _ rfl rfl (run_store_bytes' _ _ _ _ _ _ _ c f) ?_
    generalize wz.setCell ⟨g0 + 3, 6, none⟩ (.slice a3 k3 c3) = w2 at hT ⊢
    clear c f hS
    replace Z0 := hid (show Blk w2 g0 (noteV (cutNote n1 k0) (.slice a0 k0 c0)) 25 from hT.1 0 _ rfl)
    replace Z1 := hid (show Blk w2 (g0 + 1) (noteV (cutNote n2 k1) (.slice a1 k1 c1)) 25 from hT.1 1 _ rfl)
    replace Z2 := hid (show Blk w2 (g0 + 2) (pakV (cutPak x1 k2) (.slice a2 k2 c2)) 27 from hT.1 2 _ rfl)
    replace Z3 := hid (show Blk w2 (g0 + 3) (pakV (cutPak x2 k3) (.slice a3 k3 c3)) 27 from hT.1 3 _ rfl)
    have W2 := hid (show Below w.heap.size w w2 from by rw [HG.out]; exact hT.2.1)
    clear hT S0 BW GZ
    repeat (first | (refine wpList_load_blk (o := ⟨some 52, _, _, _, _, _⟩) 25 (.tmp 4) rfl rfl g0 (noteV (cutNote n1 k0) (.slice a0 k0 c0)) 25 rfl Z0.out ⟨_, Tryd.underlying25, rfl⟩ (by kernel_rfl) ?_) | go_step)
    have hC := note_calls (cutNote n1 k0) a0 c0 w2 OK0.out (HB0.out.below W2.out) (Hq.out.below W2.out Hq.out.1)
    rw [LK0.out] at hC
    obtain ⟨e0, he0⟩ : ∃ e, (noteL (cutNote n1 k0)).2 = e := ⟨_, rfl⟩
    obtain ⟨y0, hy0⟩ : ∃ y, (noteL (cutNote n1 k0)).1 = y := ⟨_, rfl⟩
    rw [he0, hy0] at hC
    have HE0 := hid he0
    have HY0 := hid hy0
    clear he0 hy0
    refine hC.mono ?_
    rintro e w3 ⟨v, rfl, ho, hb⟩
    obtain ⟨p0, q0, r0, rfl, hn, hs, _⟩ := ob_n ho
    have P0 := hid hs
    have N0 := hid hn
    replace Z0 := hid (Z0.out.below hb)
    replace Z1 := hid (Z1.out.below hb)
    replace Z2 := hid (Z2.out.below hb)
    replace Z3 := hid (Z3.out.below hb)
    replace W2 := hid (W2.out.trans (hb.mono W2.out.size))
    clear ho hs hn hb hC
    dsimp only
    repeat (first | (refine wpList_load_blk (o := ⟨some 57, _, _, _, _, _⟩) 25 (.tmp 5) rfl rfl (g0 + 1) (noteV (cutNote n2 k1) (.slice a1 k1 c1)) 25 rfl Z1.out ⟨_, Tryd.underlying25, rfl⟩ (by kernel_rfl) ?_) | go_step)
    have hC := note_calls (cutNote n2 k1) a1 c1 w3 OK1.out (HB1.out.below W2.out) (Hq.out.below W2.out Hq.out.1)
    rw [LK1.out] at hC
    obtain ⟨e1, he1⟩ : ∃ e, (noteL (cutNote n2 k1)).2 = e := ⟨_, rfl⟩
    obtain ⟨y1, hy1⟩ : ∃ y, (noteL (cutNote n2 k1)).1 = y := ⟨_, rfl⟩
    rw [he1, hy1] at hC
    have HE1 := hid he1
    have HY1 := hid hy1
    clear he1 hy1
    refine hC.mono ?_
    rintro e w4 ⟨v, rfl, ho, hb⟩
    obtain ⟨p1, q1, r1, rfl, hn, hs, _⟩ := ob_n ho
    replace P0 := hid (P0.out.below hb)
    have P1 := hid hs
    have N1 := hid hn
    replace Z0 := hid (Z0.out.below hb)
    replace Z1 := hid (Z1.out.below hb)
    replace Z2 := hid (Z2.out.below hb)
    replace Z3 := hid (Z3.out.below hb)
    replace W2 := hid (W2.out.trans (hb.mono W2.out.size))
    clear ho hs hn hb hC
    dsimp only
    repeat (first | (refine wpList_load_blk (o := ⟨some 62, _, _, _, _, _⟩) 27 (.tmp 6) rfl rfl (g0 + 2) (pakV (cutPak x1 k2) (.slice a2 k2 c2)) 27 rfl Z2.out ⟨_, Tryd.underlying27, rfl⟩ (by kernel_rfl) ?_) | go_step)
    have hC := pak_calls (cutPak x1 k2) a2 c2 w4 OK2.out (HB2.out.below W2.out) (Hq.out.below W2.out Hq.out.1)
    rw [LK2.out] at hC
    obtain ⟨e2, he2⟩ : ∃ e, (pakL (cutPak x1 k2)).2 = e := ⟨_, rfl⟩
    obtain ⟨y2, hy2⟩ : ∃ y, (pakL (cutPak x1 k2)).1 = y := ⟨_, rfl⟩
    rw [he2, hy2] at hC
    have HE2 := hid he2
    have HY2 := hid hy2
    clear he2 hy2
    refine hC.mono ?_
    rintro e w5 ⟨v, rfl, ho, hb⟩
    obtain ⟨p2, q2, r2, rfl, hn, hs, _⟩ := ob_n ho
    replace P0 := hid (P0.out.below hb)
    replace P1 := hid (P1.out.below hb)
    have P2 := hid hs
    have N2 := hid hn
    replace Z0 := hid (Z0.out.below hb)
    replace Z1 := hid (Z1.out.below hb)
    replace Z2 := hid (Z2.out.below hb)
    replace Z3 := hid (Z3.out.below hb)
    replace W2 := hid (W2.out.trans (hb.mono W2.out.size))
    clear ho hs hn hb hC
    dsimp only
    repeat (first | (refine wpList_load_blk (o := ⟨some 67, _, _, _, _, _⟩) 27 (.tmp 7) rfl rfl (g0 + 3) (pakV (cutPak x2 k3) (.slice a3 k3 c3)) 27 rfl Z3.out ⟨_, Tryd.underlying27, rfl⟩ (by kernel_rfl) ?_) | go_step)
    have hC := pak_calls (cutPak x2 k3) a3 c3 w5 OK3.out (HB3.out.below W2.out) (Hq.out.below W2.out Hq.out.1)
    rw [LK3.out] at hC
    obtain ⟨e3, he3⟩ : ∃ e, (pakL (cutPak x2 k3)).2 = e := ⟨_, rfl⟩
    obtain ⟨y3, hy3⟩ : ∃ y, (pakL (cutPak x2 k3)).1 = y := ⟨_, rfl⟩
    rw [he3, hy3] at hC
    have HE3 := hid he3
    have HY3 := hid hy3
    clear he3 hy3
    refine hC.mono ?_
    rintro e w6 ⟨v, rfl, ho, hb⟩
    obtain ⟨p3, q3, r3, rfl, hn, hs, _⟩ := ob_n ho
    replace P0 := hid (P0.out.below hb)
    replace P1 := hid (P1.out.below hb)
    replace P2 := hid (P2.out.below hb)
    have P3 := hid hs
    have N3 := hid hn
    replace Z0 := hid (Z0.out.below hb)
    replace Z1 := hid (Z1.out.below hb)
    replace Z2 := hid (Z2.out.below hb)
    replace Z3 := hid (Z3.out.below hb)
    replace W2 := hid (W2.out.trans (hb.mono W2.out.size))
    clear ho hs hn hb hC
    dsimp only
    go_upto_region 8 with fail
    rcases noteL_code (cutNote n1 k0) with ⟨f0, z0⟩ | ⟨f0, z0⟩
    case' inr =>
      obtain rfl : e0 = 4 := by rw [← HE0.out, z0]
      clear f0 z0
      rcases pakL_code (cutPak x1 k2) with ⟨f2, z2⟩ | ⟨f2, z2⟩
      case' inr =>
        obtain rfl : e2 = 4 := by rw [← HE2.out, z2]
        clear f2 z2
        refine wp_region_below (fun idx v w' => match idx with
          | 0 => v = .int .i64 4
          | 1 => v = .bool true
          | 2 => v = .bool true
          | 3 => v = undef
          | 4 => v = undef
          | 5 => v = .bool true
          | 6 => v = .bool true
          | 7 => v = undef
          | 8 => v = undef
          | 9 => v = undef
          | 10 => v = undef
          | 11 => v = undef
          | 12 => v = undef
          | 13 => v = undef
          | 14 => v = .bool true
          | 15 => v = .bool true
          | 16 => v = .int .i64 4
          | 17 => v = .bool true
          | 18 => v = .bool true
          | 19 => v = undef
          | 20 => v = undef
          | 21 => v = .bool true
          | 22 => v = .bool true
          | 23 => v = undef
          | 24 => v = undef
          | 25 => v = undef
          | 26 => v = undef
          | 27 => v = undef
          | 28 => v = undef
          | 29 => v = undef
          | 30 => v = .bool true
          | 31 => v = .bool true
          | 32 => v = .bool true
          | _ => True) (by kernel_rfl) (by kernel_rfl) ?_ ?_ ?_
        · intro j v wx wy hR hb
          match j, hR with
          | 0, hR | 1, hR | 2, hR | 3, hR | 4, hR | 5, hR | 6, hR | 7, hR | 8, hR | 9, hR | 10, hR | 11, hR | 12, hR | 13, hR | 14, hR | 15, hR | 16, hR | 17, hR | 18, hR | 19, hR | 20, hR | 21, hR | 22, hR | 23, hR | 24, hR | 25, hR | 26, hR | 27, hR | 28, hR | 29, hR | 30, hR | 31, hR | 32, hR => exact hR
          | _ + 33, _ => trivial
        · refine ⟨?_, ?_, ?_, ?_, ?_, ?_, ?_, ?_, ?_, ?_, ?_, ?_, ?_, ?_, ?_, ?_, ?_, ?_, ?_, ?_, ?_, ?_, ?_, ?_, ?_, ?_, ?_, ?_, ?_, ?_, ?_, ?_, ?_, trivial⟩
          all_goals intro ρ wx hE hc hg hf
          · intro (h0 : ρ (.tmp 10) = .int .i64 4)
            exact opOk_move _ rfl ⟨Below.refl _ _, h0⟩
          · intro (h0 : ρ (.tmp 71) = .int .i64 4)
            exact opOk_run (v := .bool true) (w' := wx) (by go_simp) ⟨Below.refl _ _, rfl⟩
          · intro (h0 : ρ (.tmp 72) = .bool true)
            exact opOk_move _ rfl ⟨Below.refl _ _, h0⟩
          · rintro _ rfl
            exact ⟨fun hh => (by cases hh), fun _ => rfl⟩
          · rintro _ rfl
            exact ⟨fun hh => (by cases hh), fun _ => rfl⟩
          · intro (h0 : ρ (.tmp 73) = .bool true) (h1 : ρ (.tmp 75) = undef)
            refine opOk_pick _ _ _ rfl true (.bool true) h0 ?_ ⟨Below.refl _ _, rfl⟩
            exact hc _
          · intro (h0 : ρ (.tmp 76) = .bool true)
            exact opOk_move _ rfl ⟨Below.refl _ _, h0⟩
          · rintro _ rfl
            exact ⟨fun hh => (by cases hh), fun _ => rfl⟩
          · rintro _ rfl
            exact ⟨fun hh => (by cases hh), fun _ => rfl⟩
          · rintro _ rfl
            exact ⟨fun hh => (by cases hh), fun _ => rfl⟩
          · rintro _ rfl
            exact ⟨fun hh => (by cases hh), fun _ => rfl⟩
          · rintro _ rfl
            exact ⟨fun hh => (by cases hh), fun _ => rfl⟩
          · rintro _ rfl
            exact ⟨fun hh => (by cases hh), fun _ => rfl⟩
          · rintro _ rfl
            exact ⟨fun hh => (by cases hh), fun _ => rfl⟩
          · intro (h0 : ρ (.tmp 77) = .bool true) (h1 : ρ (.tmp 84) = undef)
            refine opOk_pick _ _ _ rfl true (.bool true) h0 ?_ ⟨Below.refl _ _, rfl⟩
            exact hc _
          · intro (h0 : ρ (.tmp 85) = .bool true)
            exact opOk_move _ rfl ⟨Below.refl _ _, h0⟩
          · rintro _ rfl
            refine ⟨fun _ => ?_, fun hh => (hh rfl).elim⟩
            intro (h0 : ρ (.tmp 14) = .int .i64 4)
            exact opOk_move _ rfl ⟨Below.refl _ _, h0⟩
          · rintro _ rfl
            refine ⟨fun _ => ?_, fun hh => (hh rfl).elim⟩
            intro (h0 : ρ (.tmp 87) = .int .i64 4)
            exact opOk_run (v := .bool true) (w' := wx) (by go_simp) ⟨Below.refl _ _, rfl⟩
          · rintro _ rfl
            refine ⟨fun _ => ?_, fun hh => (hh rfl).elim⟩
            intro (h0 : ρ (.tmp 88) = .bool true)
            exact opOk_move _ rfl ⟨Below.refl _ _, h0⟩
          · rintro _ rfl
            exact ⟨fun hh => (by cases hh), fun _ => rfl⟩
          · rintro _ rfl
            exact ⟨fun hh => (by cases hh), fun _ => rfl⟩
          · rintro _ rfl
            refine ⟨fun _ => ?_, fun hh => (hh rfl).elim⟩
            intro (h0 : ρ (.tmp 89) = .bool true) (h1 : ρ (.tmp 91) = undef)
            refine opOk_pick _ _ _ rfl true (.bool true) h0 ?_ ⟨Below.refl _ _, rfl⟩
            exact hc _
          · rintro _ rfl
            refine ⟨fun _ => ?_, fun hh => (hh rfl).elim⟩
            intro (h0 : ρ (.tmp 92) = .bool true)
            exact opOk_move _ rfl ⟨Below.refl _ _, h0⟩
          · rintro _ rfl
            exact ⟨fun hh => (by cases hh), fun _ => rfl⟩
          · rintro _ rfl
            exact ⟨fun hh => (by cases hh), fun _ => rfl⟩
          · rintro _ rfl
            exact ⟨fun hh => (by cases hh), fun _ => rfl⟩
          · rintro _ rfl
            exact ⟨fun hh => (by cases hh), fun _ => rfl⟩
          · rintro _ rfl
            exact ⟨fun hh => (by cases hh), fun _ => rfl⟩
          · rintro _ rfl
            exact ⟨fun hh => (by cases hh), fun _ => rfl⟩
          · rintro _ rfl
            exact ⟨fun hh => (by cases hh), fun _ => rfl⟩
          · rintro _ rfl
            refine ⟨fun _ => ?_, fun hh => (hh rfl).elim⟩
            intro (h0 : ρ (.tmp 93) = .bool true) (h1 : ρ (.tmp 100) = undef)
            refine opOk_pick _ _ _ rfl true (.bool true) h0 ?_ ⟨Below.refl _ _, rfl⟩
            exact hc _
          · intro (h0 : ρ (.tmp 86) = .bool true) (h1 : ρ (.tmp 101) = .bool true)
            refine opOk_pick _ _ _ rfl true (.bool true) h0 ?_ ⟨Below.refl _ _, rfl⟩
            exact h1
          · intro (h0 : ρ (.tmp 102) = .bool true)
            exact opOk_assignV _ _ rfl h0 ⟨Below.refl _ _, rfl⟩
        · intro wz hE
          rintro _ rfl _ rfl _ rfl _ rfl _ rfl _ rfl _ rfl _ rfl _ rfl _ rfl _ rfl _ rfl _ rfl _ rfl _ rfl _ rfl _ rfl _ rfl _ rfl _ rfl _ rfl _ rfl _ rfl _ rfl _ rfl _ rfl _ rfl _ rfl _ rfl _ rfl _ rfl _ rfl _ rfl
          simp only [PutAll, Act.put, List.setIfInBounds_toArray, List.set_cons_succ, List.set_cons_zero]
          go_wp2_with fail
          go_ret
          exact ⟨rfl, W2.out.trans (hE.mono W2.out.size)⟩
      obtain rfl : e2 = 0 := by rw [← HE2.out, z2]
      have hy2 := HY2.out
      rw [z2] at hy2
      replace HY2 := hid hy2
      have HF2 := hid f2
      clear f2 z2 hy2
      rcases pakL_code (cutPak x2 k3) with ⟨f3, z3⟩ | ⟨f3, z3⟩
      case' inr =>
        obtain rfl : e3 = 4 := by rw [← HE3.out, z3]
        clear f3 z3
        refine wp_region_below (fun idx v w' => match idx with
          | 0 => v = .int .i64 4
          | 1 => v = .bool true
          | 2 => v = .bool true
          | 3 => v = undef
          | 4 => v = undef
          | 5 => v = .bool true
          | 6 => v = .bool true
          | 7 => v = undef
          | 8 => v = undef
          | 9 => v = undef
          | 10 => v = undef
          | 11 => v = undef
          | 12 => v = undef
          | 13 => v = undef
          | 14 => v = .bool true
          | 15 => v = .bool true
          | 16 => v = .int .i64 0
          | 17 => v = .bool false
          | 18 => v = .bool false
          | 19 => v = .int .i64 4
          | 20 => v = .bool true
          | 21 => v = .bool true
          | 22 => v = .bool true
          | 23 => v = undef
          | 24 => v = undef
          | 25 => v = undef
          | 26 => v = undef
          | 27 => v = undef
          | 28 => v = undef
          | 29 => v = undef
          | 30 => v = .bool true
          | 31 => v = .bool true
          | 32 => v = .bool true
          | _ => True) (by kernel_rfl) (by kernel_rfl) ?_ ?_ ?_
        · intro j v wx wy hR hb
          match j, hR with
          | 0, hR | 1, hR | 2, hR | 3, hR | 4, hR | 5, hR | 6, hR | 7, hR | 8, hR | 9, hR | 10, hR | 11, hR | 12, hR | 13, hR | 14, hR | 15, hR | 16, hR | 17, hR | 18, hR | 19, hR | 20, hR | 21, hR | 22, hR | 23, hR | 24, hR | 25, hR | 26, hR | 27, hR | 28, hR | 29, hR | 30, hR | 31, hR | 32, hR => exact hR
          | _ + 33, _ => trivial
        · refine ⟨?_, ?_, ?_, ?_, ?_, ?_, ?_, ?_, ?_, ?_, ?_, ?_, ?_, ?_, ?_, ?_, ?_, ?_, ?_, ?_, ?_, ?_, ?_, ?_, ?_, ?_, ?_, ?_, ?_, ?_, ?_, ?_, ?_, trivial⟩
          all_goals intro ρ wx hE hc hg hf
          · intro (h0 : ρ (.tmp 10) = .int .i64 4)
            exact opOk_move _ rfl ⟨Below.refl _ _, h0⟩
          · intro (h0 : ρ (.tmp 71) = .int .i64 4)
            exact opOk_run (v := .bool true) (w' := wx) (by go_simp) ⟨Below.refl _ _, rfl⟩
          · intro (h0 : ρ (.tmp 72) = .bool true)
            exact opOk_move _ rfl ⟨Below.refl _ _, h0⟩
          · rintro _ rfl
            exact ⟨fun hh => (by cases hh), fun _ => rfl⟩
          · rintro _ rfl
            exact ⟨fun hh => (by cases hh), fun _ => rfl⟩
          · intro (h0 : ρ (.tmp 73) = .bool true) (h1 : ρ (.tmp 75) = undef)
            refine opOk_pick _ _ _ rfl true (.bool true) h0 ?_ ⟨Below.refl _ _, rfl⟩
            exact hc _
          · intro (h0 : ρ (.tmp 76) = .bool true)
            exact opOk_move _ rfl ⟨Below.refl _ _, h0⟩
          · rintro _ rfl
            exact ⟨fun hh => (by cases hh), fun _ => rfl⟩
          · rintro _ rfl
            exact ⟨fun hh => (by cases hh), fun _ => rfl⟩
          · rintro _ rfl
            exact ⟨fun hh => (by cases hh), fun _ => rfl⟩
          · rintro _ rfl
            exact ⟨fun hh => (by cases hh), fun _ => rfl⟩
          · rintro _ rfl
            exact ⟨fun hh => (by cases hh), fun _ => rfl⟩
          · rintro _ rfl
            exact ⟨fun hh => (by cases hh), fun _ => rfl⟩
          · rintro _ rfl
            exact ⟨fun hh => (by cases hh), fun _ => rfl⟩
          · intro (h0 : ρ (.tmp 77) = .bool true) (h1 : ρ (.tmp 84) = undef)
            refine opOk_pick _ _ _ rfl true (.bool true) h0 ?_ ⟨Below.refl _ _, rfl⟩
            exact hc _
          · intro (h0 : ρ (.tmp 85) = .bool true)
            exact opOk_move _ rfl ⟨Below.refl _ _, h0⟩
          · rintro _ rfl
            refine ⟨fun _ => ?_, fun hh => (hh rfl).elim⟩
            intro (h0 : ρ (.tmp 14) = .int .i64 0)
            exact opOk_move _ rfl ⟨Below.refl _ _, h0⟩
          · rintro _ rfl
            refine ⟨fun _ => ?_, fun hh => (hh rfl).elim⟩
            intro (h0 : ρ (.tmp 87) = .int .i64 0)
            exact opOk_run (v := .bool false) (w' := wx) (by go_simp) ⟨Below.refl _ _, rfl⟩
          · rintro _ rfl
            refine ⟨fun _ => ?_, fun hh => (hh rfl).elim⟩
            intro (h0 : ρ (.tmp 88) = .bool false)
            exact opOk_move _ rfl ⟨Below.refl _ _, h0⟩
          · rintro _ rfl
            refine ⟨fun _ => ?_, fun hh => (hh rfl).elim⟩
            intro (h0 : ρ (.tmp 16) = .int .i64 4)
            exact opOk_move _ rfl ⟨Below.refl _ _, h0⟩
          · rintro _ rfl
            refine ⟨fun _ => ?_, fun hh => (hh rfl).elim⟩
            intro (h0 : ρ (.tmp 90) = .int .i64 4)
            exact opOk_run (v := .bool true) (w' := wx) (by go_simp) ⟨Below.refl _ _, rfl⟩
          · rintro _ rfl
            refine ⟨fun _ => ?_, fun hh => (hh rfl).elim⟩
            intro (h0 : ρ (.tmp 89) = .bool false) (h1 : ρ (.tmp 91) = .bool true)
            refine opOk_pick _ _ _ rfl false (.bool true) h0 ?_ ⟨Below.refl _ _, rfl⟩
            exact h1
          · rintro _ rfl
            refine ⟨fun _ => ?_, fun hh => (hh rfl).elim⟩
            intro (h0 : ρ (.tmp 92) = .bool true)
            exact opOk_move _ rfl ⟨Below.refl _ _, h0⟩
          · rintro _ rfl
            exact ⟨fun hh => (by cases hh), fun _ => rfl⟩
          · rintro _ rfl
            exact ⟨fun hh => (by cases hh), fun _ => rfl⟩
          · rintro _ rfl
            exact ⟨fun hh => (by cases hh), fun _ => rfl⟩
          · rintro _ rfl
            exact ⟨fun hh => (by cases hh), fun _ => rfl⟩
          · rintro _ rfl
            exact ⟨fun hh => (by cases hh), fun _ => rfl⟩
          · rintro _ rfl
            exact ⟨fun hh => (by cases hh), fun _ => rfl⟩
          · rintro _ rfl
            exact ⟨fun hh => (by cases hh), fun _ => rfl⟩
          · rintro _ rfl
            refine ⟨fun _ => ?_, fun hh => (hh rfl).elim⟩
            intro (h0 : ρ (.tmp 93) = .bool true) (h1 : ρ (.tmp 100) = undef)
            refine opOk_pick _ _ _ rfl true (.bool true) h0 ?_ ⟨Below.refl _ _, rfl⟩
            exact hc _
          · intro (h0 : ρ (.tmp 86) = .bool true) (h1 : ρ (.tmp 101) = .bool true)
            refine opOk_pick _ _ _ rfl true (.bool true) h0 ?_ ⟨Below.refl _ _, rfl⟩
            exact h1
          · intro (h0 : ρ (.tmp 102) = .bool true)
            exact opOk_assignV _ _ rfl h0 ⟨Below.refl _ _, rfl⟩
        · intro wz hE
          rintro _ rfl _ rfl _ rfl _ rfl _ rfl _ rfl _ rfl _ rfl _ rfl _ rfl _ rfl _ rfl _ rfl _ rfl _ rfl _ rfl _ rfl _ rfl _ rfl _ rfl _ rfl _ rfl _ rfl _ rfl _ rfl _ rfl _ rfl _ rfl _ rfl _ rfl _ rfl _ rfl _ rfl
          simp only [PutAll, Act.put, List.setIfInBounds_toArray, List.set_cons_succ, List.set_cons_zero]
          go_wp2_with fail
          go_ret
          exact ⟨rfl, W2.out.trans (hE.mono W2.out.size)⟩
      obtain rfl : e3 = 0 := by rw [← HE3.out, z3]
      have hy3 := HY3.out
      rw [z3] at hy3
      have EP := hid (show (y2 == y3) = sameP (cutPak x1 k2) (cutPak x2 k3) from by rw [← hy3, ← HY2.out]; exact tieP_same OK2.out OK3.out HF2.out f3)
      clear f3 z3 hy3
      refine wp_region_below (fun idx v w' => match idx with
        | 0 => v = .int .i64 4
        | 1 => v = .bool true
        | 2 => v = .bool true
        | 3 => v = undef
        | 4 => v = undef
        | 5 => v = .bool true
        | 6 => v = .bool true
        | 7 => v = undef
        | 8 => v = undef
        | 9 => v = undef
        | 10 => v = undef
        | 11 => v = undef
        | 12 => v = undef
        | 13 => v = undef
        | 14 => v = .bool true
        | 15 => v = .bool true
        | 16 => v = .int .i64 0
        | 17 => v = .bool false
        | 18 => v = .bool false
        | 19 => v = .int .i64 0
        | 20 => v = .bool false
        | 21 => v = .bool false
        | 22 => v = .bool false
        | 23 => v = .slice p2 q2 r2
        | 24 => v = .slice p3 q3 r3
        | 25 => v = .bool (y2 == y3)
        | 26 => v = .agg (pakV (cutPak x1 k2) (.slice a2 k2 c2)).toArray
        | 27 => v = .agg (pakV (cutPak x2 k3) (.slice a3 k3 c3)).toArray
        | 28 => v = .bool (sameP (cutPak x1 k2) (cutPak x2 k3))
        | 29 => v = .bool true
        | 30 => v = .bool true
        | 31 => v = .bool true
        | 32 => v = .bool true
        | _ => True) (by kernel_rfl) (by kernel_rfl) ?_ ?_ ?_
      · intro j v wx wy hR hb
        match j, hR with
        | 0, hR | 1, hR | 2, hR | 3, hR | 4, hR | 5, hR | 6, hR | 7, hR | 8, hR | 9, hR | 10, hR | 11, hR | 12, hR | 13, hR | 14, hR | 15, hR | 16, hR | 17, hR | 18, hR | 19, hR | 20, hR | 21, hR | 22, hR | 23, hR | 24, hR | 25, hR | 26, hR | 27, hR | 28, hR | 29, hR | 30, hR | 31, hR | 32, hR => exact hR
        | _ + 33, _ => trivial
      · refine ⟨?_, ?_, ?_, ?_, ?_, ?_, ?_, ?_, ?_, ?_, ?_, ?_, ?_, ?_, ?_, ?_, ?_, ?_, ?_, ?_, ?_, ?_, ?_, ?_, ?_, ?_, ?_, ?_, ?_, ?_, ?_, ?_, ?_, trivial⟩
        all_goals intro ρ wx hE hc hg hf
        · intro (h0 : ρ (.tmp 10) = .int .i64 4)
          exact opOk_move _ rfl ⟨Below.refl _ _, h0⟩
        · intro (h0 : ρ (.tmp 71) = .int .i64 4)
          exact opOk_run (v := .bool true) (w' := wx) (by go_simp) ⟨Below.refl _ _, rfl⟩
        · intro (h0 : ρ (.tmp 72) = .bool true)
          exact opOk_move _ rfl ⟨Below.refl _ _, h0⟩
        · rintro _ rfl
          exact ⟨fun hh => (by cases hh), fun _ => rfl⟩
        · rintro _ rfl
          exact ⟨fun hh => (by cases hh), fun _ => rfl⟩
        · intro (h0 : ρ (.tmp 73) = .bool true) (h1 : ρ (.tmp 75) = undef)
          refine opOk_pick _ _ _ rfl true (.bool true) h0 ?_ ⟨Below.refl _ _, rfl⟩
          exact hc _
        · intro (h0 : ρ (.tmp 76) = .bool true)
          exact opOk_move _ rfl ⟨Below.refl _ _, h0⟩
        · rintro _ rfl
          exact ⟨fun hh => (by cases hh), fun _ => rfl⟩
        · rintro _ rfl
          exact ⟨fun hh => (by cases hh), fun _ => rfl⟩
        · rintro _ rfl
          exact ⟨fun hh => (by cases hh), fun _ => rfl⟩
        · rintro _ rfl
          exact ⟨fun hh => (by cases hh), fun _ => rfl⟩
        · rintro _ rfl
          exact ⟨fun hh => (by cases hh), fun _ => rfl⟩
        · rintro _ rfl
          exact ⟨fun hh => (by cases hh), fun _ => rfl⟩
        · rintro _ rfl
          exact ⟨fun hh => (by cases hh), fun _ => rfl⟩
        · intro (h0 : ρ (.tmp 77) = .bool true) (h1 : ρ (.tmp 84) = undef)
          refine opOk_pick _ _ _ rfl true (.bool true) h0 ?_ ⟨Below.refl _ _, rfl⟩
          exact hc _
        · intro (h0 : ρ (.tmp 85) = .bool true)
          exact opOk_move _ rfl ⟨Below.refl _ _, h0⟩
        · rintro _ rfl
          refine ⟨fun _ => ?_, fun hh => (hh rfl).elim⟩
          intro (h0 : ρ (.tmp 14) = .int .i64 0)
          exact opOk_move _ rfl ⟨Below.refl _ _, h0⟩
        · rintro _ rfl
          refine ⟨fun _ => ?_, fun hh => (hh rfl).elim⟩
          intro (h0 : ρ (.tmp 87) = .int .i64 0)
          exact opOk_run (v := .bool false) (w' := wx) (by go_simp) ⟨Below.refl _ _, rfl⟩
        · rintro _ rfl
          refine ⟨fun _ => ?_, fun hh => (hh rfl).elim⟩
          intro (h0 : ρ (.tmp 88) = .bool false)
          exact opOk_move _ rfl ⟨Below.refl _ _, h0⟩
        · rintro _ rfl
          refine ⟨fun _ => ?_, fun hh => (hh rfl).elim⟩
          intro (h0 : ρ (.tmp 16) = .int .i64 0)
          exact opOk_move _ rfl ⟨Below.refl _ _, h0⟩
        · rintro _ rfl
          refine ⟨fun _ => ?_, fun hh => (hh rfl).elim⟩
          intro (h0 : ρ (.tmp 90) = .int .i64 0)
          exact opOk_run (v := .bool false) (w' := wx) (by go_simp) ⟨Below.refl _ _, rfl⟩
        · rintro _ rfl
          refine ⟨fun _ => ?_, fun hh => (hh rfl).elim⟩
          intro (h0 : ρ (.tmp 89) = .bool false) (h1 : ρ (.tmp 91) = .bool false)
          refine opOk_pick _ _ _ rfl false (.bool false) h0 ?_ ⟨Below.refl _ _, rfl⟩
          exact h1
        · rintro _ rfl
          refine ⟨fun _ => ?_, fun hh => (hh rfl).elim⟩
          intro (h0 : ρ (.tmp 92) = .bool false)
          exact opOk_move _ rfl ⟨Below.refl _ _, h0⟩
        · rintro _ rfl
          refine ⟨fun _ => ?_, fun hh => (hh rfl).elim⟩
          intro (h0 : ρ (.tmp 13) = .slice p2 q2 r2)
          exact opOk_move _ rfl ⟨Below.refl _ _, h0⟩
        · rintro _ rfl
          refine ⟨fun _ => ?_, fun hh => (hh rfl).elim⟩
          intro (h0 : ρ (.tmp 15) = .slice p3 q3 r3)
          exact opOk_move _ rfl ⟨Below.refl _ _, h0⟩
        · rintro _ rfl
          refine ⟨fun _ => ?_, fun hh => (hh rfl).elim⟩
          intro (h0 : ρ (.tmp 94) = .slice p2 q2 r2) (h1 : ρ (.tmp 95) = .slice p3 q3 r3)
          refine opOk_call (f := 13) (args := #[.slice p2 q2 r2, .slice p3 q3 r3]) (by go_simp) ?_
          refine (same_n _ _ _ _ _ _ _ _ _ (P2.out.below hE) (P3.out.below hE) N2.out N3.out).mono ?_
          rintro e w' ⟨rfl, rfl⟩
          exact ⟨_, rfl, Below.refl _ _, rfl⟩
        · rintro _ rfl
          refine ⟨fun _ => ?_, fun hh => (hh rfl).elim⟩
          intro (h0 : ρ (.tmp 6) = .pointer (some ⟨(g0 + 2), 0, none⟩))
          have ⟨d, hd1, hd2⟩ : ∃ d, Tryd.prog.underlying 27 = some d ∧ d.isRow = true := ⟨_, Tryd.underlying27, rfl⟩
          exact opOk_load_row _ _ rfl (g0 + 2) 0 (pakV (cutPak x1 k2) (.slice a2 k2 c2)) h0 (Blk.range (Z2.out.below hE)) ⟨d, hd1, hd2⟩ (by kernel_rfl) ⟨Below.refl _ _, rfl⟩
        · rintro _ rfl
          refine ⟨fun _ => ?_, fun hh => (hh rfl).elim⟩
          intro (h0 : ρ (.tmp 7) = .pointer (some ⟨(g0 + 3), 0, none⟩))
          have ⟨d, hd1, hd2⟩ : ∃ d, Tryd.prog.underlying 27 = some d ∧ d.isRow = true := ⟨_, Tryd.underlying27, rfl⟩
          exact opOk_load_row _ _ rfl (g0 + 3) 0 (pakV (cutPak x2 k3) (.slice a3 k3 c3)) h0 (Blk.range (Z3.out.below hE)) ⟨d, hd1, hd2⟩ (by kernel_rfl) ⟨Below.refl _ _, rfl⟩
        · rintro _ rfl
          refine ⟨fun _ => ?_, fun hh => (hh rfl).elim⟩
          intro (h0 : ρ (.tmp 97) = .agg (pakV (cutPak x1 k2) (.slice a2 k2 c2)).toArray) (h1 : ρ (.tmp 98) = .agg (pakV (cutPak x2 k3) (.slice a3 k3 c3)).toArray)
          refine opOk_call (f := 15) (args := #[.agg (pakV (cutPak x1 k2) (.slice a2 k2 c2)).toArray, .agg (pakV (cutPak x2 k3) (.slice a3 k3 c3)).toArray]) (by go_simp) ?_
          have hC := sameP_calls (cutPak x1 k2) (cutPak x2 k3) a2 a3 c2 c3 wx OK2.out OK3.out (HB2.out.below (W2.out.trans (hE.mono W2.out.size))) (HB3.out.below (W2.out.trans (hE.mono W2.out.size)))
          rw [LK2.out, LK3.out] at hC
          refine hC.mono ?_
          rintro e w' ⟨rfl, hb⟩
          exact ⟨_, rfl, hb, rfl⟩
        · rintro _ rfl
          refine ⟨fun _ => ?_, fun hh => (hh rfl).elim⟩
          intro (h0 : ρ (.tmp 96) = .bool (y2 == y3)) (h1 : ρ (.tmp 99) = .bool (sameP (cutPak x1 k2) (cutPak x2 k3)))
          rw [← EP.out] at h1
          exact opOk_run (v := .bool true) (w' := wx) (by go_simp) ⟨Below.refl _ _, rfl⟩
        · rintro _ rfl
          refine ⟨fun _ => ?_, fun hh => (hh rfl).elim⟩
          intro (h0 : ρ (.tmp 93) = .bool false) (h1 : ρ (.tmp 100) = .bool true)
          refine opOk_pick _ _ _ rfl false (.bool true) h0 ?_ ⟨Below.refl _ _, rfl⟩
          exact h1
        · intro (h0 : ρ (.tmp 86) = .bool true) (h1 : ρ (.tmp 101) = .bool true)
          refine opOk_pick _ _ _ rfl true (.bool true) h0 ?_ ⟨Below.refl _ _, rfl⟩
          exact h1
        · intro (h0 : ρ (.tmp 102) = .bool true)
          exact opOk_assignV _ _ rfl h0 ⟨Below.refl _ _, rfl⟩
      · intro wz hE
        rintro _ rfl _ rfl _ rfl _ rfl _ rfl _ rfl _ rfl _ rfl _ rfl _ rfl _ rfl _ rfl _ rfl _ rfl _ rfl _ rfl _ rfl _ rfl _ rfl _ rfl _ rfl _ rfl _ rfl _ rfl _ rfl _ rfl _ rfl _ rfl _ rfl _ rfl _ rfl _ rfl _ rfl
        simp only [PutAll, Act.put, List.setIfInBounds_toArray, List.set_cons_succ, List.set_cons_zero]
        go_wp2_with fail
        go_ret
        exact ⟨rfl, W2.out.trans (hE.mono W2.out.size)⟩
    obtain rfl : e0 = 0 := by rw [← HE0.out, z0]
    have hy0 := HY0.out
    rw [z0] at hy0
    replace HY0 := hid hy0
    have HF0 := hid f0
    clear f0 z0 hy0
    rcases noteL_code (cutNote n2 k1) with ⟨f1, z1⟩ | ⟨f1, z1⟩
    case' inr =>
      obtain rfl : e1 = 4 := by rw [← HE1.out, z1]
      clear f1 z1
      rcases pakL_code (cutPak x1 k2) with ⟨f2, z2⟩ | ⟨f2, z2⟩
      case' inr =>
        obtain rfl : e2 = 4 := by rw [← HE2.out, z2]
        clear f2 z2
        refine wp_region_below (fun idx v w' => match idx with
          | 0 => v = .int .i64 0
          | 1 => v = .bool false
          | 2 => v = .bool false
          | 3 => v = .int .i64 4
          | 4 => v = .bool true
          | 5 => v = .bool true
          | 6 => v = .bool true
          | 7 => v = undef
          | 8 => v = undef
          | 9 => v = undef
          | 10 => v = undef
          | 11 => v = undef
          | 12 => v = undef
          | 13 => v = undef
          | 14 => v = .bool true
          | 15 => v = .bool true
          | 16 => v = .int .i64 4
          | 17 => v = .bool true
          | 18 => v = .bool true
          | 19 => v = undef
          | 20 => v = undef
          | 21 => v = .bool true
          | 22 => v = .bool true
          | 23 => v = undef
          | 24 => v = undef
          | 25 => v = undef
          | 26 => v = undef
          | 27 => v = undef
          | 28 => v = undef
          | 29 => v = undef
          | 30 => v = .bool true
          | 31 => v = .bool true
          | 32 => v = .bool true
          | _ => True) (by kernel_rfl) (by kernel_rfl) ?_ ?_ ?_
        · intro j v wx wy hR hb
          match j, hR with
          | 0, hR | 1, hR | 2, hR | 3, hR | 4, hR | 5, hR | 6, hR | 7, hR | 8, hR | 9, hR | 10, hR | 11, hR | 12, hR | 13, hR | 14, hR | 15, hR | 16, hR | 17, hR | 18, hR | 19, hR | 20, hR | 21, hR | 22, hR | 23, hR | 24, hR | 25, hR | 26, hR | 27, hR | 28, hR | 29, hR | 30, hR | 31, hR | 32, hR => exact hR
          | _ + 33, _ => trivial
        · refine ⟨?_, ?_, ?_, ?_, ?_, ?_, ?_, ?_, ?_, ?_, ?_, ?_, ?_, ?_, ?_, ?_, ?_, ?_, ?_, ?_, ?_, ?_, ?_, ?_, ?_, ?_, ?_, ?_, ?_, ?_, ?_, ?_, ?_, trivial⟩
          all_goals intro ρ wx hE hc hg hf
          · intro (h0 : ρ (.tmp 10) = .int .i64 0)
            exact opOk_move _ rfl ⟨Below.refl _ _, h0⟩
          · intro (h0 : ρ (.tmp 71) = .int .i64 0)
            exact opOk_run (v := .bool false) (w' := wx) (by go_simp) ⟨Below.refl _ _, rfl⟩
          · intro (h0 : ρ (.tmp 72) = .bool false)
            exact opOk_move _ rfl ⟨Below.refl _ _, h0⟩
          · rintro _ rfl
            refine ⟨fun _ => ?_, fun hh => (hh rfl).elim⟩
            intro (h0 : ρ (.tmp 12) = .int .i64 4)
            exact opOk_move _ rfl ⟨Below.refl _ _, h0⟩
          · rintro _ rfl
            refine ⟨fun _ => ?_, fun hh => (hh rfl).elim⟩
            intro (h0 : ρ (.tmp 74) = .int .i64 4)
            exact opOk_run (v := .bool true) (w' := wx) (by go_simp) ⟨Below.refl _ _, rfl⟩
          · intro (h0 : ρ (.tmp 73) = .bool false) (h1 : ρ (.tmp 75) = .bool true)
            refine opOk_pick _ _ _ rfl false (.bool true) h0 ?_ ⟨Below.refl _ _, rfl⟩
            exact h1
          · intro (h0 : ρ (.tmp 76) = .bool true)
            exact opOk_move _ rfl ⟨Below.refl _ _, h0⟩
          · rintro _ rfl
            exact ⟨fun hh => (by cases hh), fun _ => rfl⟩
          · rintro _ rfl
            exact ⟨fun hh => (by cases hh), fun _ => rfl⟩
          · rintro _ rfl
            exact ⟨fun hh => (by cases hh), fun _ => rfl⟩
          · rintro _ rfl
            exact ⟨fun hh => (by cases hh), fun _ => rfl⟩
          · rintro _ rfl
            exact ⟨fun hh => (by cases hh), fun _ => rfl⟩
          · rintro _ rfl
            exact ⟨fun hh => (by cases hh), fun _ => rfl⟩
          · rintro _ rfl
            exact ⟨fun hh => (by cases hh), fun _ => rfl⟩
          · intro (h0 : ρ (.tmp 77) = .bool true) (h1 : ρ (.tmp 84) = undef)
            refine opOk_pick _ _ _ rfl true (.bool true) h0 ?_ ⟨Below.refl _ _, rfl⟩
            exact hc _
          · intro (h0 : ρ (.tmp 85) = .bool true)
            exact opOk_move _ rfl ⟨Below.refl _ _, h0⟩
          · rintro _ rfl
            refine ⟨fun _ => ?_, fun hh => (hh rfl).elim⟩
            intro (h0 : ρ (.tmp 14) = .int .i64 4)
            exact opOk_move _ rfl ⟨Below.refl _ _, h0⟩
          · rintro _ rfl
            refine ⟨fun _ => ?_, fun hh => (hh rfl).elim⟩
            intro (h0 : ρ (.tmp 87) = .int .i64 4)
            exact opOk_run (v := .bool true) (w' := wx) (by go_simp) ⟨Below.refl _ _, rfl⟩
          · rintro _ rfl
            refine ⟨fun _ => ?_, fun hh => (hh rfl).elim⟩
            intro (h0 : ρ (.tmp 88) = .bool true)
            exact opOk_move _ rfl ⟨Below.refl _ _, h0⟩
          · rintro _ rfl
            exact ⟨fun hh => (by cases hh), fun _ => rfl⟩
          · rintro _ rfl
            exact ⟨fun hh => (by cases hh), fun _ => rfl⟩
          · rintro _ rfl
            refine ⟨fun _ => ?_, fun hh => (hh rfl).elim⟩
            intro (h0 : ρ (.tmp 89) = .bool true) (h1 : ρ (.tmp 91) = undef)
            refine opOk_pick _ _ _ rfl true (.bool true) h0 ?_ ⟨Below.refl _ _, rfl⟩
            exact hc _
          · rintro _ rfl
            refine ⟨fun _ => ?_, fun hh => (hh rfl).elim⟩
            intro (h0 : ρ (.tmp 92) = .bool true)
            exact opOk_move _ rfl ⟨Below.refl _ _, h0⟩
          · rintro _ rfl
            exact ⟨fun hh => (by cases hh), fun _ => rfl⟩
          · rintro _ rfl
            exact ⟨fun hh => (by cases hh), fun _ => rfl⟩
          · rintro _ rfl
            exact ⟨fun hh => (by cases hh), fun _ => rfl⟩
          · rintro _ rfl
            exact ⟨fun hh => (by cases hh), fun _ => rfl⟩
          · rintro _ rfl
            exact ⟨fun hh => (by cases hh), fun _ => rfl⟩
          · rintro _ rfl
            exact ⟨fun hh => (by cases hh), fun _ => rfl⟩
          · rintro _ rfl
            exact ⟨fun hh => (by cases hh), fun _ => rfl⟩
          · rintro _ rfl
            refine ⟨fun _ => ?_, fun hh => (hh rfl).elim⟩
            intro (h0 : ρ (.tmp 93) = .bool true) (h1 : ρ (.tmp 100) = undef)
            refine opOk_pick _ _ _ rfl true (.bool true) h0 ?_ ⟨Below.refl _ _, rfl⟩
            exact hc _
          · intro (h0 : ρ (.tmp 86) = .bool true) (h1 : ρ (.tmp 101) = .bool true)
            refine opOk_pick _ _ _ rfl true (.bool true) h0 ?_ ⟨Below.refl _ _, rfl⟩
            exact h1
          · intro (h0 : ρ (.tmp 102) = .bool true)
            exact opOk_assignV _ _ rfl h0 ⟨Below.refl _ _, rfl⟩
        · intro wz hE
          rintro _ rfl _ rfl _ rfl _ rfl _ rfl _ rfl _ rfl _ rfl _ rfl _ rfl _ rfl _ rfl _ rfl _ rfl _ rfl _ rfl _ rfl _ rfl _ rfl _ rfl _ rfl _ rfl _ rfl _ rfl _ rfl _ rfl _ rfl _ rfl _ rfl _ rfl _ rfl _ rfl _ rfl
          simp only [PutAll, Act.put, List.setIfInBounds_toArray, List.set_cons_succ, List.set_cons_zero]
          go_wp2_with fail
          go_ret
          exact ⟨rfl, W2.out.trans (hE.mono W2.out.size)⟩
      obtain rfl : e2 = 0 := by rw [← HE2.out, z2]
      have hy2 := HY2.out
      rw [z2] at hy2
      replace HY2 := hid hy2
      have HF2 := hid f2
      clear f2 z2 hy2
      rcases pakL_code (cutPak x2 k3) with ⟨f3, z3⟩ | ⟨f3, z3⟩
      case' inr =>
        obtain rfl : e3 = 4 := by rw [← HE3.out, z3]
        clear f3 z3
        refine wp_region_below (fun idx v w' => match idx with
          | 0 => v = .int .i64 0
          | 1 => v = .bool false
          | 2 => v = .bool false
          | 3 => v = .int .i64 4
          | 4 => v = .bool true
          | 5 => v = .bool true
          | 6 => v = .bool true
          | 7 => v = undef
          | 8 => v = undef
          | 9 => v = undef
          | 10 => v = undef
          | 11 => v = undef
          | 12 => v = undef
          | 13 => v = undef
          | 14 => v = .bool true
          | 15 => v = .bool true
          | 16 => v = .int .i64 0
          | 17 => v = .bool false
          | 18 => v = .bool false
          | 19 => v = .int .i64 4
          | 20 => v = .bool true
          | 21 => v = .bool true
          | 22 => v = .bool true
          | 23 => v = undef
          | 24 => v = undef
          | 25 => v = undef
          | 26 => v = undef
          | 27 => v = undef
          | 28 => v = undef
          | 29 => v = undef
          | 30 => v = .bool true
          | 31 => v = .bool true
          | 32 => v = .bool true
          | _ => True) (by kernel_rfl) (by kernel_rfl) ?_ ?_ ?_
        · intro j v wx wy hR hb
          match j, hR with
          | 0, hR | 1, hR | 2, hR | 3, hR | 4, hR | 5, hR | 6, hR | 7, hR | 8, hR | 9, hR | 10, hR | 11, hR | 12, hR | 13, hR | 14, hR | 15, hR | 16, hR | 17, hR | 18, hR | 19, hR | 20, hR | 21, hR | 22, hR | 23, hR | 24, hR | 25, hR | 26, hR | 27, hR | 28, hR | 29, hR | 30, hR | 31, hR | 32, hR => exact hR
          | _ + 33, _ => trivial
        · refine ⟨?_, ?_, ?_, ?_, ?_, ?_, ?_, ?_, ?_, ?_, ?_, ?_, ?_, ?_, ?_, ?_, ?_, ?_, ?_, ?_, ?_, ?_, ?_, ?_, ?_, ?_, ?_, ?_, ?_, ?_, ?_, ?_, ?_, trivial⟩
          all_goals intro ρ wx hE hc hg hf
          · intro (h0 : ρ (.tmp 10) = .int .i64 0)
            exact opOk_move _ rfl ⟨Below.refl _ _, h0⟩
          · intro (h0 : ρ (.tmp 71) = .int .i64 0)
            exact opOk_run (v := .bool false) (w' := wx) (by go_simp) ⟨Below.refl _ _, rfl⟩
          · intro (h0 : ρ (.tmp 72) = .bool false)
            exact opOk_move _ rfl ⟨Below.refl _ _, h0⟩
          · rintro _ rfl
            refine ⟨fun _ => ?_, fun hh => (hh rfl).elim⟩
            intro (h0 : ρ (.tmp 12) = .int .i64 4)
            exact opOk_move _ rfl ⟨Below.refl _ _, h0⟩
          · rintro _ rfl
            refine ⟨fun _ => ?_, fun hh => (hh rfl).elim⟩
            intro (h0 : ρ (.tmp 74) = .int .i64 4)
            exact opOk_run (v := .bool true) (w' := wx) (by go_simp) ⟨Below.refl _ _, rfl⟩
          · intro (h0 : ρ (.tmp 73) = .bool false) (h1 : ρ (.tmp 75) = .bool true)
            refine opOk_pick _ _ _ rfl false (.bool true) h0 ?_ ⟨Below.refl _ _, rfl⟩
            exact h1
          · intro (h0 : ρ (.tmp 76) = .bool true)
            exact opOk_move _ rfl ⟨Below.refl _ _, h0⟩
          · rintro _ rfl
            exact ⟨fun hh => (by cases hh), fun _ => rfl⟩
          · rintro _ rfl
            exact ⟨fun hh => (by cases hh), fun _ => rfl⟩
          · rintro _ rfl
            exact ⟨fun hh => (by cases hh), fun _ => rfl⟩
          · rintro _ rfl
            exact ⟨fun hh => (by cases hh), fun _ => rfl⟩
          · rintro _ rfl
            exact ⟨fun hh => (by cases hh), fun _ => rfl⟩
          · rintro _ rfl
            exact ⟨fun hh => (by cases hh), fun _ => rfl⟩
          · rintro _ rfl
            exact ⟨fun hh => (by cases hh), fun _ => rfl⟩
          · intro (h0 : ρ (.tmp 77) = .bool true) (h1 : ρ (.tmp 84) = undef)
            refine opOk_pick _ _ _ rfl true (.bool true) h0 ?_ ⟨Below.refl _ _, rfl⟩
            exact hc _
          · intro (h0 : ρ (.tmp 85) = .bool true)
            exact opOk_move _ rfl ⟨Below.refl _ _, h0⟩
          · rintro _ rfl
            refine ⟨fun _ => ?_, fun hh => (hh rfl).elim⟩
            intro (h0 : ρ (.tmp 14) = .int .i64 0)
            exact opOk_move _ rfl ⟨Below.refl _ _, h0⟩
          · rintro _ rfl
            refine ⟨fun _ => ?_, fun hh => (hh rfl).elim⟩
            intro (h0 : ρ (.tmp 87) = .int .i64 0)
            exact opOk_run (v := .bool false) (w' := wx) (by go_simp) ⟨Below.refl _ _, rfl⟩
          · rintro _ rfl
            refine ⟨fun _ => ?_, fun hh => (hh rfl).elim⟩
            intro (h0 : ρ (.tmp 88) = .bool false)
            exact opOk_move _ rfl ⟨Below.refl _ _, h0⟩
          · rintro _ rfl
            refine ⟨fun _ => ?_, fun hh => (hh rfl).elim⟩
            intro (h0 : ρ (.tmp 16) = .int .i64 4)
            exact opOk_move _ rfl ⟨Below.refl _ _, h0⟩
          · rintro _ rfl
            refine ⟨fun _ => ?_, fun hh => (hh rfl).elim⟩
            intro (h0 : ρ (.tmp 90) = .int .i64 4)
            exact opOk_run (v := .bool true) (w' := wx) (by go_simp) ⟨Below.refl _ _, rfl⟩
          · rintro _ rfl
            refine ⟨fun _ => ?_, fun hh => (hh rfl).elim⟩
            intro (h0 : ρ (.tmp 89) = .bool false) (h1 : ρ (.tmp 91) = .bool true)
            refine opOk_pick _ _ _ rfl false (.bool true) h0 ?_ ⟨Below.refl _ _, rfl⟩
            exact h1
          · rintro _ rfl
            refine ⟨fun _ => ?_, fun hh => (hh rfl).elim⟩
            intro (h0 : ρ (.tmp 92) = .bool true)
            exact opOk_move _ rfl ⟨Below.refl _ _, h0⟩
          · rintro _ rfl
            exact ⟨fun hh => (by cases hh), fun _ => rfl⟩
          · rintro _ rfl
            exact ⟨fun hh => (by cases hh), fun _ => rfl⟩
          · rintro _ rfl
            exact ⟨fun hh => (by cases hh), fun _ => rfl⟩
          · rintro _ rfl
            exact ⟨fun hh => (by cases hh), fun _ => rfl⟩
          · rintro _ rfl
            exact ⟨fun hh => (by cases hh), fun _ => rfl⟩
          · rintro _ rfl
            exact ⟨fun hh => (by cases hh), fun _ => rfl⟩
          · rintro _ rfl
            exact ⟨fun hh => (by cases hh), fun _ => rfl⟩
          · rintro _ rfl
            refine ⟨fun _ => ?_, fun hh => (hh rfl).elim⟩
            intro (h0 : ρ (.tmp 93) = .bool true) (h1 : ρ (.tmp 100) = undef)
            refine opOk_pick _ _ _ rfl true (.bool true) h0 ?_ ⟨Below.refl _ _, rfl⟩
            exact hc _
          · intro (h0 : ρ (.tmp 86) = .bool true) (h1 : ρ (.tmp 101) = .bool true)
            refine opOk_pick _ _ _ rfl true (.bool true) h0 ?_ ⟨Below.refl _ _, rfl⟩
            exact h1
          · intro (h0 : ρ (.tmp 102) = .bool true)
            exact opOk_assignV _ _ rfl h0 ⟨Below.refl _ _, rfl⟩
        · intro wz hE
          rintro _ rfl _ rfl _ rfl _ rfl _ rfl _ rfl _ rfl _ rfl _ rfl _ rfl _ rfl _ rfl _ rfl _ rfl _ rfl _ rfl _ rfl _ rfl _ rfl _ rfl _ rfl _ rfl _ rfl _ rfl _ rfl _ rfl _ rfl _ rfl _ rfl _ rfl _ rfl _ rfl _ rfl
          simp only [PutAll, Act.put, List.setIfInBounds_toArray, List.set_cons_succ, List.set_cons_zero]
          go_wp2_with fail
          go_ret
          exact ⟨rfl, W2.out.trans (hE.mono W2.out.size)⟩
      obtain rfl : e3 = 0 := by rw [← HE3.out, z3]
      have hy3 := HY3.out
      rw [z3] at hy3
      have EP := hid (show (y2 == y3) = sameP (cutPak x1 k2) (cutPak x2 k3) from by rw [← hy3, ← HY2.out]; exact tieP_same OK2.out OK3.out HF2.out f3)
      clear f3 z3 hy3
      refine wp_region_below (fun idx v w' => match idx with
        | 0 => v = .int .i64 0
        | 1 => v = .bool false
        | 2 => v = .bool false
        | 3 => v = .int .i64 4
        | 4 => v = .bool true
        | 5 => v = .bool true
        | 6 => v = .bool true
        | 7 => v = undef
        | 8 => v = undef
        | 9 => v = undef
        | 10 => v = undef
        | 11 => v = undef
        | 12 => v = undef
        | 13 => v = undef
        | 14 => v = .bool true
        | 15 => v = .bool true
        | 16 => v = .int .i64 0
        | 17 => v = .bool false
        | 18 => v = .bool false
        | 19 => v = .int .i64 0
        | 20 => v = .bool false
        | 21 => v = .bool false
        | 22 => v = .bool false
        | 23 => v = .slice p2 q2 r2
        | 24 => v = .slice p3 q3 r3
        | 25 => v = .bool (y2 == y3)
        | 26 => v = .agg (pakV (cutPak x1 k2) (.slice a2 k2 c2)).toArray
        | 27 => v = .agg (pakV (cutPak x2 k3) (.slice a3 k3 c3)).toArray
        | 28 => v = .bool (sameP (cutPak x1 k2) (cutPak x2 k3))
        | 29 => v = .bool true
        | 30 => v = .bool true
        | 31 => v = .bool true
        | 32 => v = .bool true
        | _ => True) (by kernel_rfl) (by kernel_rfl) ?_ ?_ ?_
      · intro j v wx wy hR hb
        match j, hR with
        | 0, hR | 1, hR | 2, hR | 3, hR | 4, hR | 5, hR | 6, hR | 7, hR | 8, hR | 9, hR | 10, hR | 11, hR | 12, hR | 13, hR | 14, hR | 15, hR | 16, hR | 17, hR | 18, hR | 19, hR | 20, hR | 21, hR | 22, hR | 23, hR | 24, hR | 25, hR | 26, hR | 27, hR | 28, hR | 29, hR | 30, hR | 31, hR | 32, hR => exact hR
        | _ + 33, _ => trivial
      · refine ⟨?_, ?_, ?_, ?_, ?_, ?_, ?_, ?_, ?_, ?_, ?_, ?_, ?_, ?_, ?_, ?_, ?_, ?_, ?_, ?_, ?_, ?_, ?_, ?_, ?_, ?_, ?_, ?_, ?_, ?_, ?_, ?_, ?_, trivial⟩
        all_goals intro ρ wx hE hc hg hf
        · intro (h0 : ρ (.tmp 10) = .int .i64 0)
          exact opOk_move _ rfl ⟨Below.refl _ _, h0⟩
        · intro (h0 : ρ (.tmp 71) = .int .i64 0)
          exact opOk_run (v := .bool false) (w' := wx) (by go_simp) ⟨Below.refl _ _, rfl⟩
        · intro (h0 : ρ (.tmp 72) = .bool false)
          exact opOk_move _ rfl ⟨Below.refl _ _, h0⟩
        · rintro _ rfl
          refine ⟨fun _ => ?_, fun hh => (hh rfl).elim⟩
          intro (h0 : ρ (.tmp 12) = .int .i64 4)
          exact opOk_move _ rfl ⟨Below.refl _ _, h0⟩
        · rintro _ rfl
          refine ⟨fun _ => ?_, fun hh => (hh rfl).elim⟩
          intro (h0 : ρ (.tmp 74) = .int .i64 4)
          exact opOk_run (v := .bool true) (w' := wx) (by go_simp) ⟨Below.refl _ _, rfl⟩
        · intro (h0 : ρ (.tmp 73) = .bool false) (h1 : ρ (.tmp 75) = .bool true)
          refine opOk_pick _ _ _ rfl false (.bool true) h0 ?_ ⟨Below.refl _ _, rfl⟩
          exact h1
        · intro (h0 : ρ (.tmp 76) = .bool true)
          exact opOk_move _ rfl ⟨Below.refl _ _, h0⟩
        · rintro _ rfl
          exact ⟨fun hh => (by cases hh), fun _ => rfl⟩
        · rintro _ rfl
          exact ⟨fun hh => (by cases hh), fun _ => rfl⟩
        · rintro _ rfl
          exact ⟨fun hh => (by cases hh), fun _ => rfl⟩
        · rintro _ rfl
          exact ⟨fun hh => (by cases hh), fun _ => rfl⟩
        · rintro _ rfl
          exact ⟨fun hh => (by cases hh), fun _ => rfl⟩
        · rintro _ rfl
          exact ⟨fun hh => (by cases hh), fun _ => rfl⟩
        · rintro _ rfl
          exact ⟨fun hh => (by cases hh), fun _ => rfl⟩
        · intro (h0 : ρ (.tmp 77) = .bool true) (h1 : ρ (.tmp 84) = undef)
          refine opOk_pick _ _ _ rfl true (.bool true) h0 ?_ ⟨Below.refl _ _, rfl⟩
          exact hc _
        · intro (h0 : ρ (.tmp 85) = .bool true)
          exact opOk_move _ rfl ⟨Below.refl _ _, h0⟩
        · rintro _ rfl
          refine ⟨fun _ => ?_, fun hh => (hh rfl).elim⟩
          intro (h0 : ρ (.tmp 14) = .int .i64 0)
          exact opOk_move _ rfl ⟨Below.refl _ _, h0⟩
        · rintro _ rfl
          refine ⟨fun _ => ?_, fun hh => (hh rfl).elim⟩
          intro (h0 : ρ (.tmp 87) = .int .i64 0)
          exact opOk_run (v := .bool false) (w' := wx) (by go_simp) ⟨Below.refl _ _, rfl⟩
        · rintro _ rfl
          refine ⟨fun _ => ?_, fun hh => (hh rfl).elim⟩
          intro (h0 : ρ (.tmp 88) = .bool false)
          exact opOk_move _ rfl ⟨Below.refl _ _, h0⟩
        · rintro _ rfl
          refine ⟨fun _ => ?_, fun hh => (hh rfl).elim⟩
          intro (h0 : ρ (.tmp 16) = .int .i64 0)
          exact opOk_move _ rfl ⟨Below.refl _ _, h0⟩
        · rintro _ rfl
          refine ⟨fun _ => ?_, fun hh => (hh rfl).elim⟩
          intro (h0 : ρ (.tmp 90) = .int .i64 0)
          exact opOk_run (v := .bool false) (w' := wx) (by go_simp) ⟨Below.refl _ _, rfl⟩
        · rintro _ rfl
          refine ⟨fun _ => ?_, fun hh => (hh rfl).elim⟩
          intro (h0 : ρ (.tmp 89) = .bool false) (h1 : ρ (.tmp 91) = .bool false)
          refine opOk_pick _ _ _ rfl false (.bool false) h0 ?_ ⟨Below.refl _ _, rfl⟩
          exact h1
        · rintro _ rfl
          refine ⟨fun _ => ?_, fun hh => (hh rfl).elim⟩
          intro (h0 : ρ (.tmp 92) = .bool false)
          exact opOk_move _ rfl ⟨Below.refl _ _, h0⟩
        · rintro _ rfl
          refine ⟨fun _ => ?_, fun hh => (hh rfl).elim⟩
          intro (h0 : ρ (.tmp 13) = .slice p2 q2 r2)
          exact opOk_move _ rfl ⟨Below.refl _ _, h0⟩
        · rintro _ rfl
          refine ⟨fun _ => ?_, fun hh => (hh rfl).elim⟩
          intro (h0 : ρ (.tmp 15) = .slice p3 q3 r3)
          exact opOk_move _ rfl ⟨Below.refl _ _, h0⟩
        · rintro _ rfl
          refine ⟨fun _ => ?_, fun hh => (hh rfl).elim⟩
          intro (h0 : ρ (.tmp 94) = .slice p2 q2 r2) (h1 : ρ (.tmp 95) = .slice p3 q3 r3)
          refine opOk_call (f := 13) (args := #[.slice p2 q2 r2, .slice p3 q3 r3]) (by go_simp) ?_
          refine (same_n _ _ _ _ _ _ _ _ _ (P2.out.below hE) (P3.out.below hE) N2.out N3.out).mono ?_
          rintro e w' ⟨rfl, rfl⟩
          exact ⟨_, rfl, Below.refl _ _, rfl⟩
        · rintro _ rfl
          refine ⟨fun _ => ?_, fun hh => (hh rfl).elim⟩
          intro (h0 : ρ (.tmp 6) = .pointer (some ⟨(g0 + 2), 0, none⟩))
          have ⟨d, hd1, hd2⟩ : ∃ d, Tryd.prog.underlying 27 = some d ∧ d.isRow = true := ⟨_, Tryd.underlying27, rfl⟩
          exact opOk_load_row _ _ rfl (g0 + 2) 0 (pakV (cutPak x1 k2) (.slice a2 k2 c2)) h0 (Blk.range (Z2.out.below hE)) ⟨d, hd1, hd2⟩ (by kernel_rfl) ⟨Below.refl _ _, rfl⟩
        · rintro _ rfl
          refine ⟨fun _ => ?_, fun hh => (hh rfl).elim⟩
          intro (h0 : ρ (.tmp 7) = .pointer (some ⟨(g0 + 3), 0, none⟩))
          have ⟨d, hd1, hd2⟩ : ∃ d, Tryd.prog.underlying 27 = some d ∧ d.isRow = true := ⟨_, Tryd.underlying27, rfl⟩
          exact opOk_load_row _ _ rfl (g0 + 3) 0 (pakV (cutPak x2 k3) (.slice a3 k3 c3)) h0 (Blk.range (Z3.out.below hE)) ⟨d, hd1, hd2⟩ (by kernel_rfl) ⟨Below.refl _ _, rfl⟩
        · rintro _ rfl
          refine ⟨fun _ => ?_, fun hh => (hh rfl).elim⟩
          intro (h0 : ρ (.tmp 97) = .agg (pakV (cutPak x1 k2) (.slice a2 k2 c2)).toArray) (h1 : ρ (.tmp 98) = .agg (pakV (cutPak x2 k3) (.slice a3 k3 c3)).toArray)
          refine opOk_call (f := 15) (args := #[.agg (pakV (cutPak x1 k2) (.slice a2 k2 c2)).toArray, .agg (pakV (cutPak x2 k3) (.slice a3 k3 c3)).toArray]) (by go_simp) ?_
          have hC := sameP_calls (cutPak x1 k2) (cutPak x2 k3) a2 a3 c2 c3 wx OK2.out OK3.out (HB2.out.below (W2.out.trans (hE.mono W2.out.size))) (HB3.out.below (W2.out.trans (hE.mono W2.out.size)))
          rw [LK2.out, LK3.out] at hC
          refine hC.mono ?_
          rintro e w' ⟨rfl, hb⟩
          exact ⟨_, rfl, hb, rfl⟩
        · rintro _ rfl
          refine ⟨fun _ => ?_, fun hh => (hh rfl).elim⟩
          intro (h0 : ρ (.tmp 96) = .bool (y2 == y3)) (h1 : ρ (.tmp 99) = .bool (sameP (cutPak x1 k2) (cutPak x2 k3)))
          rw [← EP.out] at h1
          exact opOk_run (v := .bool true) (w' := wx) (by go_simp) ⟨Below.refl _ _, rfl⟩
        · rintro _ rfl
          refine ⟨fun _ => ?_, fun hh => (hh rfl).elim⟩
          intro (h0 : ρ (.tmp 93) = .bool false) (h1 : ρ (.tmp 100) = .bool true)
          refine opOk_pick _ _ _ rfl false (.bool true) h0 ?_ ⟨Below.refl _ _, rfl⟩
          exact h1
        · intro (h0 : ρ (.tmp 86) = .bool true) (h1 : ρ (.tmp 101) = .bool true)
          refine opOk_pick _ _ _ rfl true (.bool true) h0 ?_ ⟨Below.refl _ _, rfl⟩
          exact h1
        · intro (h0 : ρ (.tmp 102) = .bool true)
          exact opOk_assignV _ _ rfl h0 ⟨Below.refl _ _, rfl⟩
      · intro wz hE
        rintro _ rfl _ rfl _ rfl _ rfl _ rfl _ rfl _ rfl _ rfl _ rfl _ rfl _ rfl _ rfl _ rfl _ rfl _ rfl _ rfl _ rfl _ rfl _ rfl _ rfl _ rfl _ rfl _ rfl _ rfl _ rfl _ rfl _ rfl _ rfl _ rfl _ rfl _ rfl _ rfl _ rfl
        simp only [PutAll, Act.put, List.setIfInBounds_toArray, List.set_cons_succ, List.set_cons_zero]
        go_wp2_with fail
        go_ret
        exact ⟨rfl, W2.out.trans (hE.mono W2.out.size)⟩
    obtain rfl : e1 = 0 := by rw [← HE1.out, z1]
    have hy1 := HY1.out
    rw [z1] at hy1
    have EN := hid (show (y0 == y1) = sameN (cutNote n1 k0) (cutNote n2 k1) from by rw [← hy1, ← HY0.out]; exact tieN_same OK0.out OK1.out HF0.out f1)
    clear f1 z1 hy1
    rcases pakL_code (cutPak x1 k2) with ⟨f2, z2⟩ | ⟨f2, z2⟩
    case' inr =>
      obtain rfl : e2 = 4 := by rw [← HE2.out, z2]
      clear f2 z2
      refine wp_region_below (fun idx v w' => match idx with
        | 0 => v = .int .i64 0
        | 1 => v = .bool false
        | 2 => v = .bool false
        | 3 => v = .int .i64 0
        | 4 => v = .bool false
        | 5 => v = .bool false
        | 6 => v = .bool false
        | 7 => v = .slice p0 q0 r0
        | 8 => v = .slice p1 q1 r1
        | 9 => v = .bool (y0 == y1)
        | 10 => v = .agg (noteV (cutNote n1 k0) (.slice a0 k0 c0)).toArray
        | 11 => v = .agg (noteV (cutNote n2 k1) (.slice a1 k1 c1)).toArray
        | 12 => v = .bool (sameN (cutNote n1 k0) (cutNote n2 k1))
        | 13 => v = .bool true
        | 14 => v = .bool true
        | 15 => v = .bool true
        | 16 => v = .int .i64 4
        | 17 => v = .bool true
        | 18 => v = .bool true
        | 19 => v = undef
        | 20 => v = undef
        | 21 => v = .bool true
        | 22 => v = .bool true
        | 23 => v = undef
        | 24 => v = undef
        | 25 => v = undef
        | 26 => v = undef
        | 27 => v = undef
        | 28 => v = undef
        | 29 => v = undef
        | 30 => v = .bool true
        | 31 => v = .bool true
        | 32 => v = .bool true
        | _ => True) (by kernel_rfl) (by kernel_rfl) ?_ ?_ ?_
      · intro j v wx wy hR hb
        match j, hR with
        | 0, hR | 1, hR | 2, hR | 3, hR | 4, hR | 5, hR | 6, hR | 7, hR | 8, hR | 9, hR | 10, hR | 11, hR | 12, hR | 13, hR | 14, hR | 15, hR | 16, hR | 17, hR | 18, hR | 19, hR | 20, hR | 21, hR | 22, hR | 23, hR | 24, hR | 25, hR | 26, hR | 27, hR | 28, hR | 29, hR | 30, hR | 31, hR | 32, hR => exact hR
        | _ + 33, _ => trivial
      · refine ⟨?_, ?_, ?_, ?_, ?_, ?_, ?_, ?_, ?_, ?_, ?_, ?_, ?_, ?_, ?_, ?_, ?_, ?_, ?_, ?_, ?_, ?_, ?_, ?_, ?_, ?_, ?_, ?_, ?_, ?_, ?_, ?_, ?_, trivial⟩
        all_goals intro ρ wx hE hc hg hf
        · intro (h0 : ρ (.tmp 10) = .int .i64 0)
          exact opOk_move _ rfl ⟨Below.refl _ _, h0⟩
        · intro (h0 : ρ (.tmp 71) = .int .i64 0)
          exact opOk_run (v := .bool false) (w' := wx) (by go_simp) ⟨Below.refl _ _, rfl⟩
        · intro (h0 : ρ (.tmp 72) = .bool false)
          exact opOk_move _ rfl ⟨Below.refl _ _, h0⟩
        · rintro _ rfl
          refine ⟨fun _ => ?_, fun hh => (hh rfl).elim⟩
          intro (h0 : ρ (.tmp 12) = .int .i64 0)
          exact opOk_move _ rfl ⟨Below.refl _ _, h0⟩
        · rintro _ rfl
          refine ⟨fun _ => ?_, fun hh => (hh rfl).elim⟩
          intro (h0 : ρ (.tmp 74) = .int .i64 0)
          exact opOk_run (v := .bool false) (w' := wx) (by go_simp) ⟨Below.refl _ _, rfl⟩
        · intro (h0 : ρ (.tmp 73) = .bool false) (h1 : ρ (.tmp 75) = .bool false)
          refine opOk_pick _ _ _ rfl false (.bool false) h0 ?_ ⟨Below.refl _ _, rfl⟩
          exact h1
        · intro (h0 : ρ (.tmp 76) = .bool false)
          exact opOk_move _ rfl ⟨Below.refl _ _, h0⟩
        · rintro _ rfl
          refine ⟨fun _ => ?_, fun hh => (hh rfl).elim⟩
          intro (h0 : ρ (.tmp 9) = .slice p0 q0 r0)
          exact opOk_move _ rfl ⟨Below.refl _ _, h0⟩
        · rintro _ rfl
          refine ⟨fun _ => ?_, fun hh => (hh rfl).elim⟩
          intro (h0 : ρ (.tmp 11) = .slice p1 q1 r1)
          exact opOk_move _ rfl ⟨Below.refl _ _, h0⟩
        · rintro _ rfl
          refine ⟨fun _ => ?_, fun hh => (hh rfl).elim⟩
          intro (h0 : ρ (.tmp 78) = .slice p0 q0 r0) (h1 : ρ (.tmp 79) = .slice p1 q1 r1)
          refine opOk_call (f := 13) (args := #[.slice p0 q0 r0, .slice p1 q1 r1]) (by go_simp) ?_
          refine (same_n _ _ _ _ _ _ _ _ _ (P0.out.below hE) (P1.out.below hE) N0.out N1.out).mono ?_
          rintro e w' ⟨rfl, rfl⟩
          exact ⟨_, rfl, Below.refl _ _, rfl⟩
        · rintro _ rfl
          refine ⟨fun _ => ?_, fun hh => (hh rfl).elim⟩
          intro (h0 : ρ (.tmp 4) = .pointer (some ⟨g0, 0, none⟩))
          have ⟨d, hd1, hd2⟩ : ∃ d, Tryd.prog.underlying 25 = some d ∧ d.isRow = true := ⟨_, Tryd.underlying25, rfl⟩
          exact opOk_load_row _ _ rfl g0 0 (noteV (cutNote n1 k0) (.slice a0 k0 c0)) h0 (Blk.range (Z0.out.below hE)) ⟨d, hd1, hd2⟩ (by kernel_rfl) ⟨Below.refl _ _, rfl⟩
        · rintro _ rfl
          refine ⟨fun _ => ?_, fun hh => (hh rfl).elim⟩
          intro (h0 : ρ (.tmp 5) = .pointer (some ⟨(g0 + 1), 0, none⟩))
          have ⟨d, hd1, hd2⟩ : ∃ d, Tryd.prog.underlying 25 = some d ∧ d.isRow = true := ⟨_, Tryd.underlying25, rfl⟩
          exact opOk_load_row _ _ rfl (g0 + 1) 0 (noteV (cutNote n2 k1) (.slice a1 k1 c1)) h0 (Blk.range (Z1.out.below hE)) ⟨d, hd1, hd2⟩ (by kernel_rfl) ⟨Below.refl _ _, rfl⟩
        · rintro _ rfl
          refine ⟨fun _ => ?_, fun hh => (hh rfl).elim⟩
          intro (h0 : ρ (.tmp 81) = .agg (noteV (cutNote n1 k0) (.slice a0 k0 c0)).toArray) (h1 : ρ (.tmp 82) = .agg (noteV (cutNote n2 k1) (.slice a1 k1 c1)).toArray)
          refine opOk_call (f := 14) (args := #[.agg (noteV (cutNote n1 k0) (.slice a0 k0 c0)).toArray, .agg (noteV (cutNote n2 k1) (.slice a1 k1 c1)).toArray]) (by go_simp) ?_
          have hC := sameN_calls (cutNote n1 k0) (cutNote n2 k1) a0 a1 c0 c1 wx OK0.out OK1.out (HB0.out.below (W2.out.trans (hE.mono W2.out.size))) (HB1.out.below (W2.out.trans (hE.mono W2.out.size)))
          rw [LK0.out, LK1.out] at hC
          refine hC.mono ?_
          rintro e w' ⟨rfl, hb⟩
          exact ⟨_, rfl, hb, rfl⟩
        · rintro _ rfl
          refine ⟨fun _ => ?_, fun hh => (hh rfl).elim⟩
          intro (h0 : ρ (.tmp 80) = .bool (y0 == y1)) (h1 : ρ (.tmp 83) = .bool (sameN (cutNote n1 k0) (cutNote n2 k1)))
          rw [← EN.out] at h1
          exact opOk_run (v := .bool true) (w' := wx) (by go_simp) ⟨Below.refl _ _, rfl⟩
        · intro (h0 : ρ (.tmp 77) = .bool false) (h1 : ρ (.tmp 84) = .bool true)
          refine opOk_pick _ _ _ rfl false (.bool true) h0 ?_ ⟨Below.refl _ _, rfl⟩
          exact h1
        · intro (h0 : ρ (.tmp 85) = .bool true)
          exact opOk_move _ rfl ⟨Below.refl _ _, h0⟩
        · rintro _ rfl
          refine ⟨fun _ => ?_, fun hh => (hh rfl).elim⟩
          intro (h0 : ρ (.tmp 14) = .int .i64 4)
          exact opOk_move _ rfl ⟨Below.refl _ _, h0⟩
        · rintro _ rfl
          refine ⟨fun _ => ?_, fun hh => (hh rfl).elim⟩
          intro (h0 : ρ (.tmp 87) = .int .i64 4)
          exact opOk_run (v := .bool true) (w' := wx) (by go_simp) ⟨Below.refl _ _, rfl⟩
        · rintro _ rfl
          refine ⟨fun _ => ?_, fun hh => (hh rfl).elim⟩
          intro (h0 : ρ (.tmp 88) = .bool true)
          exact opOk_move _ rfl ⟨Below.refl _ _, h0⟩
        · rintro _ rfl
          exact ⟨fun hh => (by cases hh), fun _ => rfl⟩
        · rintro _ rfl
          exact ⟨fun hh => (by cases hh), fun _ => rfl⟩
        · rintro _ rfl
          refine ⟨fun _ => ?_, fun hh => (hh rfl).elim⟩
          intro (h0 : ρ (.tmp 89) = .bool true) (h1 : ρ (.tmp 91) = undef)
          refine opOk_pick _ _ _ rfl true (.bool true) h0 ?_ ⟨Below.refl _ _, rfl⟩
          exact hc _
        · rintro _ rfl
          refine ⟨fun _ => ?_, fun hh => (hh rfl).elim⟩
          intro (h0 : ρ (.tmp 92) = .bool true)
          exact opOk_move _ rfl ⟨Below.refl _ _, h0⟩
        · rintro _ rfl
          exact ⟨fun hh => (by cases hh), fun _ => rfl⟩
        · rintro _ rfl
          exact ⟨fun hh => (by cases hh), fun _ => rfl⟩
        · rintro _ rfl
          exact ⟨fun hh => (by cases hh), fun _ => rfl⟩
        · rintro _ rfl
          exact ⟨fun hh => (by cases hh), fun _ => rfl⟩
        · rintro _ rfl
          exact ⟨fun hh => (by cases hh), fun _ => rfl⟩
        · rintro _ rfl
          exact ⟨fun hh => (by cases hh), fun _ => rfl⟩
        · rintro _ rfl
          exact ⟨fun hh => (by cases hh), fun _ => rfl⟩
        · rintro _ rfl
          refine ⟨fun _ => ?_, fun hh => (hh rfl).elim⟩
          intro (h0 : ρ (.tmp 93) = .bool true) (h1 : ρ (.tmp 100) = undef)
          refine opOk_pick _ _ _ rfl true (.bool true) h0 ?_ ⟨Below.refl _ _, rfl⟩
          exact hc _
        · intro (h0 : ρ (.tmp 86) = .bool true) (h1 : ρ (.tmp 101) = .bool true)
          refine opOk_pick _ _ _ rfl true (.bool true) h0 ?_ ⟨Below.refl _ _, rfl⟩
          exact h1
        · intro (h0 : ρ (.tmp 102) = .bool true)
          exact opOk_assignV _ _ rfl h0 ⟨Below.refl _ _, rfl⟩
      · intro wz hE
        rintro _ rfl _ rfl _ rfl _ rfl _ rfl _ rfl _ rfl _ rfl _ rfl _ rfl _ rfl _ rfl _ rfl _ rfl _ rfl _ rfl _ rfl _ rfl _ rfl _ rfl _ rfl _ rfl _ rfl _ rfl _ rfl _ rfl _ rfl _ rfl _ rfl _ rfl _ rfl _ rfl _ rfl
        simp only [PutAll, Act.put, List.setIfInBounds_toArray, List.set_cons_succ, List.set_cons_zero]
        go_wp2_with fail
        go_ret
        exact ⟨rfl, W2.out.trans (hE.mono W2.out.size)⟩
    obtain rfl : e2 = 0 := by rw [← HE2.out, z2]
    have hy2 := HY2.out
    rw [z2] at hy2
    replace HY2 := hid hy2
    have HF2 := hid f2
    clear f2 z2 hy2
    rcases pakL_code (cutPak x2 k3) with ⟨f3, z3⟩ | ⟨f3, z3⟩
    case' inr =>
      obtain rfl : e3 = 4 := by rw [← HE3.out, z3]
      clear f3 z3
      refine wp_region_below (fun idx v w' => match idx with
        | 0 => v = .int .i64 0
        | 1 => v = .bool false
        | 2 => v = .bool false
        | 3 => v = .int .i64 0
        | 4 => v = .bool false
        | 5 => v = .bool false
        | 6 => v = .bool false
        | 7 => v = .slice p0 q0 r0
        | 8 => v = .slice p1 q1 r1
        | 9 => v = .bool (y0 == y1)
        | 10 => v = .agg (noteV (cutNote n1 k0) (.slice a0 k0 c0)).toArray
        | 11 => v = .agg (noteV (cutNote n2 k1) (.slice a1 k1 c1)).toArray
        | 12 => v = .bool (sameN (cutNote n1 k0) (cutNote n2 k1))
        | 13 => v = .bool true
        | 14 => v = .bool true
        | 15 => v = .bool true
        | 16 => v = .int .i64 0
        | 17 => v = .bool false
        | 18 => v = .bool false
        | 19 => v = .int .i64 4
        | 20 => v = .bool true
        | 21 => v = .bool true
        | 22 => v = .bool true
        | 23 => v = undef
        | 24 => v = undef
        | 25 => v = undef
        | 26 => v = undef
        | 27 => v = undef
        | 28 => v = undef
        | 29 => v = undef
        | 30 => v = .bool true
        | 31 => v = .bool true
        | 32 => v = .bool true
        | _ => True) (by kernel_rfl) (by kernel_rfl) ?_ ?_ ?_
      · intro j v wx wy hR hb
        match j, hR with
        | 0, hR | 1, hR | 2, hR | 3, hR | 4, hR | 5, hR | 6, hR | 7, hR | 8, hR | 9, hR | 10, hR | 11, hR | 12, hR | 13, hR | 14, hR | 15, hR | 16, hR | 17, hR | 18, hR | 19, hR | 20, hR | 21, hR | 22, hR | 23, hR | 24, hR | 25, hR | 26, hR | 27, hR | 28, hR | 29, hR | 30, hR | 31, hR | 32, hR => exact hR
        | _ + 33, _ => trivial
      · refine ⟨?_, ?_, ?_, ?_, ?_, ?_, ?_, ?_, ?_, ?_, ?_, ?_, ?_, ?_, ?_, ?_, ?_, ?_, ?_, ?_, ?_, ?_, ?_, ?_, ?_, ?_, ?_, ?_, ?_, ?_, ?_, ?_, ?_, trivial⟩
        all_goals intro ρ wx hE hc hg hf
        · intro (h0 : ρ (.tmp 10) = .int .i64 0)
          exact opOk_move _ rfl ⟨Below.refl _ _, h0⟩
        · intro (h0 : ρ (.tmp 71) = .int .i64 0)
          exact opOk_run (v := .bool false) (w' := wx) (by go_simp) ⟨Below.refl _ _, rfl⟩
        · intro (h0 : ρ (.tmp 72) = .bool false)
          exact opOk_move _ rfl ⟨Below.refl _ _, h0⟩
        · rintro _ rfl
          refine ⟨fun _ => ?_, fun hh => (hh rfl).elim⟩
          intro (h0 : ρ (.tmp 12) = .int .i64 0)
          exact opOk_move _ rfl ⟨Below.refl _ _, h0⟩
        · rintro _ rfl
          refine ⟨fun _ => ?_, fun hh => (hh rfl).elim⟩
          intro (h0 : ρ (.tmp 74) = .int .i64 0)
          exact opOk_run (v := .bool false) (w' := wx) (by go_simp) ⟨Below.refl _ _, rfl⟩
        · intro (h0 : ρ (.tmp 73) = .bool false) (h1 : ρ (.tmp 75) = .bool false)
          refine opOk_pick _ _ _ rfl false (.bool false) h0 ?_ ⟨Below.refl _ _, rfl⟩
          exact h1
        · intro (h0 : ρ (.tmp 76) = .bool false)
          exact opOk_move _ rfl ⟨Below.refl _ _, h0⟩
        · rintro _ rfl
          refine ⟨fun _ => ?_, fun hh => (hh rfl).elim⟩
          intro (h0 : ρ (.tmp 9) = .slice p0 q0 r0)
          exact opOk_move _ rfl ⟨Below.refl _ _, h0⟩
        · rintro _ rfl
          refine ⟨fun _ => ?_, fun hh => (hh rfl).elim⟩
          intro (h0 : ρ (.tmp 11) = .slice p1 q1 r1)
          exact opOk_move _ rfl ⟨Below.refl _ _, h0⟩
        · rintro _ rfl
          refine ⟨fun _ => ?_, fun hh => (hh rfl).elim⟩
          intro (h0 : ρ (.tmp 78) = .slice p0 q0 r0) (h1 : ρ (.tmp 79) = .slice p1 q1 r1)
          refine opOk_call (f := 13) (args := #[.slice p0 q0 r0, .slice p1 q1 r1]) (by go_simp) ?_
          refine (same_n _ _ _ _ _ _ _ _ _ (P0.out.below hE) (P1.out.below hE) N0.out N1.out).mono ?_
          rintro e w' ⟨rfl, rfl⟩
          exact ⟨_, rfl, Below.refl _ _, rfl⟩
        · rintro _ rfl
          refine ⟨fun _ => ?_, fun hh => (hh rfl).elim⟩
          intro (h0 : ρ (.tmp 4) = .pointer (some ⟨g0, 0, none⟩))
          have ⟨d, hd1, hd2⟩ : ∃ d, Tryd.prog.underlying 25 = some d ∧ d.isRow = true := ⟨_, Tryd.underlying25, rfl⟩
          exact opOk_load_row _ _ rfl g0 0 (noteV (cutNote n1 k0) (.slice a0 k0 c0)) h0 (Blk.range (Z0.out.below hE)) ⟨d, hd1, hd2⟩ (by kernel_rfl) ⟨Below.refl _ _, rfl⟩
        · rintro _ rfl
          refine ⟨fun _ => ?_, fun hh => (hh rfl).elim⟩
          intro (h0 : ρ (.tmp 5) = .pointer (some ⟨(g0 + 1), 0, none⟩))
          have ⟨d, hd1, hd2⟩ : ∃ d, Tryd.prog.underlying 25 = some d ∧ d.isRow = true := ⟨_, Tryd.underlying25, rfl⟩
          exact opOk_load_row _ _ rfl (g0 + 1) 0 (noteV (cutNote n2 k1) (.slice a1 k1 c1)) h0 (Blk.range (Z1.out.below hE)) ⟨d, hd1, hd2⟩ (by kernel_rfl) ⟨Below.refl _ _, rfl⟩
        · rintro _ rfl
          refine ⟨fun _ => ?_, fun hh => (hh rfl).elim⟩
          intro (h0 : ρ (.tmp 81) = .agg (noteV (cutNote n1 k0) (.slice a0 k0 c0)).toArray) (h1 : ρ (.tmp 82) = .agg (noteV (cutNote n2 k1) (.slice a1 k1 c1)).toArray)
          refine opOk_call (f := 14) (args := #[.agg (noteV (cutNote n1 k0) (.slice a0 k0 c0)).toArray, .agg (noteV (cutNote n2 k1) (.slice a1 k1 c1)).toArray]) (by go_simp) ?_
          have hC := sameN_calls (cutNote n1 k0) (cutNote n2 k1) a0 a1 c0 c1 wx OK0.out OK1.out (HB0.out.below (W2.out.trans (hE.mono W2.out.size))) (HB1.out.below (W2.out.trans (hE.mono W2.out.size)))
          rw [LK0.out, LK1.out] at hC
          refine hC.mono ?_
          rintro e w' ⟨rfl, hb⟩
          exact ⟨_, rfl, hb, rfl⟩
        · rintro _ rfl
          refine ⟨fun _ => ?_, fun hh => (hh rfl).elim⟩
          intro (h0 : ρ (.tmp 80) = .bool (y0 == y1)) (h1 : ρ (.tmp 83) = .bool (sameN (cutNote n1 k0) (cutNote n2 k1)))
          rw [← EN.out] at h1
          exact opOk_run (v := .bool true) (w' := wx) (by go_simp) ⟨Below.refl _ _, rfl⟩
        · intro (h0 : ρ (.tmp 77) = .bool false) (h1 : ρ (.tmp 84) = .bool true)
          refine opOk_pick _ _ _ rfl false (.bool true) h0 ?_ ⟨Below.refl _ _, rfl⟩
          exact h1
        · intro (h0 : ρ (.tmp 85) = .bool true)
          exact opOk_move _ rfl ⟨Below.refl _ _, h0⟩
        · rintro _ rfl
          refine ⟨fun _ => ?_, fun hh => (hh rfl).elim⟩
          intro (h0 : ρ (.tmp 14) = .int .i64 0)
          exact opOk_move _ rfl ⟨Below.refl _ _, h0⟩
        · rintro _ rfl
          refine ⟨fun _ => ?_, fun hh => (hh rfl).elim⟩
          intro (h0 : ρ (.tmp 87) = .int .i64 0)
          exact opOk_run (v := .bool false) (w' := wx) (by go_simp) ⟨Below.refl _ _, rfl⟩
        · rintro _ rfl
          refine ⟨fun _ => ?_, fun hh => (hh rfl).elim⟩
          intro (h0 : ρ (.tmp 88) = .bool false)
          exact opOk_move _ rfl ⟨Below.refl _ _, h0⟩
        · rintro _ rfl
          refine ⟨fun _ => ?_, fun hh => (hh rfl).elim⟩
          intro (h0 : ρ (.tmp 16) = .int .i64 4)
          exact opOk_move _ rfl ⟨Below.refl _ _, h0⟩
        · rintro _ rfl
          refine ⟨fun _ => ?_, fun hh => (hh rfl).elim⟩
          intro (h0 : ρ (.tmp 90) = .int .i64 4)
          exact opOk_run (v := .bool true) (w' := wx) (by go_simp) ⟨Below.refl _ _, rfl⟩
        · rintro _ rfl
          refine ⟨fun _ => ?_, fun hh => (hh rfl).elim⟩
          intro (h0 : ρ (.tmp 89) = .bool false) (h1 : ρ (.tmp 91) = .bool true)
          refine opOk_pick _ _ _ rfl false (.bool true) h0 ?_ ⟨Below.refl _ _, rfl⟩
          exact h1
        · rintro _ rfl
          refine ⟨fun _ => ?_, fun hh => (hh rfl).elim⟩
          intro (h0 : ρ (.tmp 92) = .bool true)
          exact opOk_move _ rfl ⟨Below.refl _ _, h0⟩
        · rintro _ rfl
          exact ⟨fun hh => (by cases hh), fun _ => rfl⟩
        · rintro _ rfl
          exact ⟨fun hh => (by cases hh), fun _ => rfl⟩
        · rintro _ rfl
          exact ⟨fun hh => (by cases hh), fun _ => rfl⟩
        · rintro _ rfl
          exact ⟨fun hh => (by cases hh), fun _ => rfl⟩
        · rintro _ rfl
          exact ⟨fun hh => (by cases hh), fun _ => rfl⟩
        · rintro _ rfl
          exact ⟨fun hh => (by cases hh), fun _ => rfl⟩
        · rintro _ rfl
          exact ⟨fun hh => (by cases hh), fun _ => rfl⟩
        · rintro _ rfl
          refine ⟨fun _ => ?_, fun hh => (hh rfl).elim⟩
          intro (h0 : ρ (.tmp 93) = .bool true) (h1 : ρ (.tmp 100) = undef)
          refine opOk_pick _ _ _ rfl true (.bool true) h0 ?_ ⟨Below.refl _ _, rfl⟩
          exact hc _
        · intro (h0 : ρ (.tmp 86) = .bool true) (h1 : ρ (.tmp 101) = .bool true)
          refine opOk_pick _ _ _ rfl true (.bool true) h0 ?_ ⟨Below.refl _ _, rfl⟩
          exact h1
        · intro (h0 : ρ (.tmp 102) = .bool true)
          exact opOk_assignV _ _ rfl h0 ⟨Below.refl _ _, rfl⟩
      · intro wz hE
        rintro _ rfl _ rfl _ rfl _ rfl _ rfl _ rfl _ rfl _ rfl _ rfl _ rfl _ rfl _ rfl _ rfl _ rfl _ rfl _ rfl _ rfl _ rfl _ rfl _ rfl _ rfl _ rfl _ rfl _ rfl _ rfl _ rfl _ rfl _ rfl _ rfl _ rfl _ rfl _ rfl _ rfl
        simp only [PutAll, Act.put, List.setIfInBounds_toArray, List.set_cons_succ, List.set_cons_zero]
        go_wp2_with fail
        go_ret
        exact ⟨rfl, W2.out.trans (hE.mono W2.out.size)⟩
    obtain rfl : e3 = 0 := by rw [← HE3.out, z3]
    have hy3 := HY3.out
    rw [z3] at hy3
    have EP := hid (show (y2 == y3) = sameP (cutPak x1 k2) (cutPak x2 k3) from by rw [← hy3, ← HY2.out]; exact tieP_same OK2.out OK3.out HF2.out f3)
    clear f3 z3 hy3
    refine wp_region_below (fun idx v w' => match idx with
      | 0 => v = .int .i64 0
      | 1 => v = .bool false
      | 2 => v = .bool false
      | 3 => v = .int .i64 0
      | 4 => v = .bool false
      | 5 => v = .bool false
      | 6 => v = .bool false
      | 7 => v = .slice p0 q0 r0
      | 8 => v = .slice p1 q1 r1
      | 9 => v = .bool (y0 == y1)
      | 10 => v = .agg (noteV (cutNote n1 k0) (.slice a0 k0 c0)).toArray
      | 11 => v = .agg (noteV (cutNote n2 k1) (.slice a1 k1 c1)).toArray
      | 12 => v = .bool (sameN (cutNote n1 k0) (cutNote n2 k1))
      | 13 => v = .bool true
      | 14 => v = .bool true
      | 15 => v = .bool true
      | 16 => v = .int .i64 0
      | 17 => v = .bool false
      | 18 => v = .bool false
      | 19 => v = .int .i64 0
      | 20 => v = .bool false
      | 21 => v = .bool false
      | 22 => v = .bool false
      | 23 => v = .slice p2 q2 r2
      | 24 => v = .slice p3 q3 r3
      | 25 => v = .bool (y2 == y3)
      | 26 => v = .agg (pakV (cutPak x1 k2) (.slice a2 k2 c2)).toArray
      | 27 => v = .agg (pakV (cutPak x2 k3) (.slice a3 k3 c3)).toArray
      | 28 => v = .bool (sameP (cutPak x1 k2) (cutPak x2 k3))
      | 29 => v = .bool true
      | 30 => v = .bool true
      | 31 => v = .bool true
      | 32 => v = .bool true
      | _ => True) (by kernel_rfl) (by kernel_rfl) ?_ ?_ ?_
    · intro j v wx wy hR hb
      match j, hR with
      | 0, hR | 1, hR | 2, hR | 3, hR | 4, hR | 5, hR | 6, hR | 7, hR | 8, hR | 9, hR | 10, hR | 11, hR | 12, hR | 13, hR | 14, hR | 15, hR | 16, hR | 17, hR | 18, hR | 19, hR | 20, hR | 21, hR | 22, hR | 23, hR | 24, hR | 25, hR | 26, hR | 27, hR | 28, hR | 29, hR | 30, hR | 31, hR | 32, hR => exact hR
      | _ + 33, _ => trivial
    · refine ⟨?_, ?_, ?_, ?_, ?_, ?_, ?_, ?_, ?_, ?_, ?_, ?_, ?_, ?_, ?_, ?_, ?_, ?_, ?_, ?_, ?_, ?_, ?_, ?_, ?_, ?_, ?_, ?_, ?_, ?_, ?_, ?_, ?_, trivial⟩
      all_goals intro ρ wx hE hc hg hf
      · intro (h0 : ρ (.tmp 10) = .int .i64 0)
        exact opOk_move _ rfl ⟨Below.refl _ _, h0⟩
      · intro (h0 : ρ (.tmp 71) = .int .i64 0)
        exact opOk_run (v := .bool false) (w' := wx) (by go_simp) ⟨Below.refl _ _, rfl⟩
      · intro (h0 : ρ (.tmp 72) = .bool false)
        exact opOk_move _ rfl ⟨Below.refl _ _, h0⟩
      · rintro _ rfl
        refine ⟨fun _ => ?_, fun hh => (hh rfl).elim⟩
        intro (h0 : ρ (.tmp 12) = .int .i64 0)
        exact opOk_move _ rfl ⟨Below.refl _ _, h0⟩
      · rintro _ rfl
        refine ⟨fun _ => ?_, fun hh => (hh rfl).elim⟩
        intro (h0 : ρ (.tmp 74) = .int .i64 0)
        exact opOk_run (v := .bool false) (w' := wx) (by go_simp) ⟨Below.refl _ _, rfl⟩
      · intro (h0 : ρ (.tmp 73) = .bool false) (h1 : ρ (.tmp 75) = .bool false)
        refine opOk_pick _ _ _ rfl false (.bool false) h0 ?_ ⟨Below.refl _ _, rfl⟩
        exact h1
      · intro (h0 : ρ (.tmp 76) = .bool false)
        exact opOk_move _ rfl ⟨Below.refl _ _, h0⟩
      · rintro _ rfl
        refine ⟨fun _ => ?_, fun hh => (hh rfl).elim⟩
        intro (h0 : ρ (.tmp 9) = .slice p0 q0 r0)
        exact opOk_move _ rfl ⟨Below.refl _ _, h0⟩
      · rintro _ rfl
        refine ⟨fun _ => ?_, fun hh => (hh rfl).elim⟩
        intro (h0 : ρ (.tmp 11) = .slice p1 q1 r1)
        exact opOk_move _ rfl ⟨Below.refl _ _, h0⟩
      · rintro _ rfl
        refine ⟨fun _ => ?_, fun hh => (hh rfl).elim⟩
        intro (h0 : ρ (.tmp 78) = .slice p0 q0 r0) (h1 : ρ (.tmp 79) = .slice p1 q1 r1)
        refine opOk_call (f := 13) (args := #[.slice p0 q0 r0, .slice p1 q1 r1]) (by go_simp) ?_
        refine (same_n _ _ _ _ _ _ _ _ _ (P0.out.below hE) (P1.out.below hE) N0.out N1.out).mono ?_
        rintro e w' ⟨rfl, rfl⟩
        exact ⟨_, rfl, Below.refl _ _, rfl⟩
      · rintro _ rfl
        refine ⟨fun _ => ?_, fun hh => (hh rfl).elim⟩
        intro (h0 : ρ (.tmp 4) = .pointer (some ⟨g0, 0, none⟩))
        have ⟨d, hd1, hd2⟩ : ∃ d, Tryd.prog.underlying 25 = some d ∧ d.isRow = true := ⟨_, Tryd.underlying25, rfl⟩
        exact opOk_load_row _ _ rfl g0 0 (noteV (cutNote n1 k0) (.slice a0 k0 c0)) h0 (Blk.range (Z0.out.below hE)) ⟨d, hd1, hd2⟩ (by kernel_rfl) ⟨Below.refl _ _, rfl⟩
      · rintro _ rfl
        refine ⟨fun _ => ?_, fun hh => (hh rfl).elim⟩
        intro (h0 : ρ (.tmp 5) = .pointer (some ⟨(g0 + 1), 0, none⟩))
        have ⟨d, hd1, hd2⟩ : ∃ d, Tryd.prog.underlying 25 = some d ∧ d.isRow = true := ⟨_, Tryd.underlying25, rfl⟩
        exact opOk_load_row _ _ rfl (g0 + 1) 0 (noteV (cutNote n2 k1) (.slice a1 k1 c1)) h0 (Blk.range (Z1.out.below hE)) ⟨d, hd1, hd2⟩ (by kernel_rfl) ⟨Below.refl _ _, rfl⟩
      · rintro _ rfl
        refine ⟨fun _ => ?_, fun hh => (hh rfl).elim⟩
        intro (h0 : ρ (.tmp 81) = .agg (noteV (cutNote n1 k0) (.slice a0 k0 c0)).toArray) (h1 : ρ (.tmp 82) = .agg (noteV (cutNote n2 k1) (.slice a1 k1 c1)).toArray)
        refine opOk_call (f := 14) (args := #[.agg (noteV (cutNote n1 k0) (.slice a0 k0 c0)).toArray, .agg (noteV (cutNote n2 k1) (.slice a1 k1 c1)).toArray]) (by go_simp) ?_
        have hC := sameN_calls (cutNote n1 k0) (cutNote n2 k1) a0 a1 c0 c1 wx OK0.out OK1.out (HB0.out.below (W2.out.trans (hE.mono W2.out.size))) (HB1.out.below (W2.out.trans (hE.mono W2.out.size)))
        rw [LK0.out, LK1.out] at hC
        refine hC.mono ?_
        rintro e w' ⟨rfl, hb⟩
        exact ⟨_, rfl, hb, rfl⟩
      · rintro _ rfl
        refine ⟨fun _ => ?_, fun hh => (hh rfl).elim⟩
        intro (h0 : ρ (.tmp 80) = .bool (y0 == y1)) (h1 : ρ (.tmp 83) = .bool (sameN (cutNote n1 k0) (cutNote n2 k1)))
        rw [← EN.out] at h1
        exact opOk_run (v := .bool true) (w' := wx) (by go_simp) ⟨Below.refl _ _, rfl⟩
      · intro (h0 : ρ (.tmp 77) = .bool false) (h1 : ρ (.tmp 84) = .bool true)
        refine opOk_pick _ _ _ rfl false (.bool true) h0 ?_ ⟨Below.refl _ _, rfl⟩
        exact h1
      · intro (h0 : ρ (.tmp 85) = .bool true)
        exact opOk_move _ rfl ⟨Below.refl _ _, h0⟩
      · rintro _ rfl
        refine ⟨fun _ => ?_, fun hh => (hh rfl).elim⟩
        intro (h0 : ρ (.tmp 14) = .int .i64 0)
        exact opOk_move _ rfl ⟨Below.refl _ _, h0⟩
      · rintro _ rfl
        refine ⟨fun _ => ?_, fun hh => (hh rfl).elim⟩
        intro (h0 : ρ (.tmp 87) = .int .i64 0)
        exact opOk_run (v := .bool false) (w' := wx) (by go_simp) ⟨Below.refl _ _, rfl⟩
      · rintro _ rfl
        refine ⟨fun _ => ?_, fun hh => (hh rfl).elim⟩
        intro (h0 : ρ (.tmp 88) = .bool false)
        exact opOk_move _ rfl ⟨Below.refl _ _, h0⟩
      · rintro _ rfl
        refine ⟨fun _ => ?_, fun hh => (hh rfl).elim⟩
        intro (h0 : ρ (.tmp 16) = .int .i64 0)
        exact opOk_move _ rfl ⟨Below.refl _ _, h0⟩
      · rintro _ rfl
        refine ⟨fun _ => ?_, fun hh => (hh rfl).elim⟩
        intro (h0 : ρ (.tmp 90) = .int .i64 0)
        exact opOk_run (v := .bool false) (w' := wx) (by go_simp) ⟨Below.refl _ _, rfl⟩
      · rintro _ rfl
        refine ⟨fun _ => ?_, fun hh => (hh rfl).elim⟩
        intro (h0 : ρ (.tmp 89) = .bool false) (h1 : ρ (.tmp 91) = .bool false)
        refine opOk_pick _ _ _ rfl false (.bool false) h0 ?_ ⟨Below.refl _ _, rfl⟩
        exact h1
      · rintro _ rfl
        refine ⟨fun _ => ?_, fun hh => (hh rfl).elim⟩
        intro (h0 : ρ (.tmp 92) = .bool false)
        exact opOk_move _ rfl ⟨Below.refl _ _, h0⟩
      · rintro _ rfl
        refine ⟨fun _ => ?_, fun hh => (hh rfl).elim⟩
        intro (h0 : ρ (.tmp 13) = .slice p2 q2 r2)
        exact opOk_move _ rfl ⟨Below.refl _ _, h0⟩
      · rintro _ rfl
        refine ⟨fun _ => ?_, fun hh => (hh rfl).elim⟩
        intro (h0 : ρ (.tmp 15) = .slice p3 q3 r3)
        exact opOk_move _ rfl ⟨Below.refl _ _, h0⟩
      · rintro _ rfl
        refine ⟨fun _ => ?_, fun hh => (hh rfl).elim⟩
        intro (h0 : ρ (.tmp 94) = .slice p2 q2 r2) (h1 : ρ (.tmp 95) = .slice p3 q3 r3)
        refine opOk_call (f := 13) (args := #[.slice p2 q2 r2, .slice p3 q3 r3]) (by go_simp) ?_
        refine (same_n _ _ _ _ _ _ _ _ _ (P2.out.below hE) (P3.out.below hE) N2.out N3.out).mono ?_
        rintro e w' ⟨rfl, rfl⟩
        exact ⟨_, rfl, Below.refl _ _, rfl⟩
      · rintro _ rfl
        refine ⟨fun _ => ?_, fun hh => (hh rfl).elim⟩
        intro (h0 : ρ (.tmp 6) = .pointer (some ⟨(g0 + 2), 0, none⟩))
        have ⟨d, hd1, hd2⟩ : ∃ d, Tryd.prog.underlying 27 = some d ∧ d.isRow = true := ⟨_, Tryd.underlying27, rfl⟩
        exact opOk_load_row _ _ rfl (g0 + 2) 0 (pakV (cutPak x1 k2) (.slice a2 k2 c2)) h0 (Blk.range (Z2.out.below hE)) ⟨d, hd1, hd2⟩ (by kernel_rfl) ⟨Below.refl _ _, rfl⟩
      · rintro _ rfl
        refine ⟨fun _ => ?_, fun hh => (hh rfl).elim⟩
        intro (h0 : ρ (.tmp 7) = .pointer (some ⟨(g0 + 3), 0, none⟩))
        have ⟨d, hd1, hd2⟩ : ∃ d, Tryd.prog.underlying 27 = some d ∧ d.isRow = true := ⟨_, Tryd.underlying27, rfl⟩
        exact opOk_load_row _ _ rfl (g0 + 3) 0 (pakV (cutPak x2 k3) (.slice a3 k3 c3)) h0 (Blk.range (Z3.out.below hE)) ⟨d, hd1, hd2⟩ (by kernel_rfl) ⟨Below.refl _ _, rfl⟩
      · rintro _ rfl
        refine ⟨fun _ => ?_, fun hh => (hh rfl).elim⟩
        intro (h0 : ρ (.tmp 97) = .agg (pakV (cutPak x1 k2) (.slice a2 k2 c2)).toArray) (h1 : ρ (.tmp 98) = .agg (pakV (cutPak x2 k3) (.slice a3 k3 c3)).toArray)
        refine opOk_call (f := 15) (args := #[.agg (pakV (cutPak x1 k2) (.slice a2 k2 c2)).toArray, .agg (pakV (cutPak x2 k3) (.slice a3 k3 c3)).toArray]) (by go_simp) ?_
        have hC := sameP_calls (cutPak x1 k2) (cutPak x2 k3) a2 a3 c2 c3 wx OK2.out OK3.out (HB2.out.below (W2.out.trans (hE.mono W2.out.size))) (HB3.out.below (W2.out.trans (hE.mono W2.out.size)))
        rw [LK2.out, LK3.out] at hC
        refine hC.mono ?_
        rintro e w' ⟨rfl, hb⟩
        exact ⟨_, rfl, hb, rfl⟩
      · rintro _ rfl
        refine ⟨fun _ => ?_, fun hh => (hh rfl).elim⟩
        intro (h0 : ρ (.tmp 96) = .bool (y2 == y3)) (h1 : ρ (.tmp 99) = .bool (sameP (cutPak x1 k2) (cutPak x2 k3)))
        rw [← EP.out] at h1
        exact opOk_run (v := .bool true) (w' := wx) (by go_simp) ⟨Below.refl _ _, rfl⟩
      · rintro _ rfl
        refine ⟨fun _ => ?_, fun hh => (hh rfl).elim⟩
        intro (h0 : ρ (.tmp 93) = .bool false) (h1 : ρ (.tmp 100) = .bool true)
        refine opOk_pick _ _ _ rfl false (.bool true) h0 ?_ ⟨Below.refl _ _, rfl⟩
        exact h1
      · intro (h0 : ρ (.tmp 86) = .bool true) (h1 : ρ (.tmp 101) = .bool true)
        refine opOk_pick _ _ _ rfl true (.bool true) h0 ?_ ⟨Below.refl _ _, rfl⟩
        exact h1
      · intro (h0 : ρ (.tmp 102) = .bool true)
        exact opOk_assignV _ _ rfl h0 ⟨Below.refl _ _, rfl⟩
    · intro wz hE
      rintro _ rfl _ rfl _ rfl _ rfl _ rfl _ rfl _ rfl _ rfl _ rfl _ rfl _ rfl _ rfl _ rfl _ rfl _ rfl _ rfl _ rfl _ rfl _ rfl _ rfl _ rfl _ rfl _ rfl _ rfl _ rfl _ rfl _ rfl _ rfl _ rfl _ rfl _ rfl _ rfl _ rfl
      simp only [PutAll, Act.put, List.setIfInBounds_toArray, List.set_cons_succ, List.set_cons_zero]
      go_wp2_with fail
      go_ret
      exact ⟨rfl, W2.out.trans (hE.mono W2.out.size)⟩
end Go.Proofs.YtmmcmldcbdaooaaDoor
