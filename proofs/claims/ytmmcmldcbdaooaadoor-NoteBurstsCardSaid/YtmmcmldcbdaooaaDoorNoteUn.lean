/- The walks of layer 4: the document's reader of notes. -/
import Derived.Test.YtmmcmldcbdaooaaDoorNoteU
namespace Go.Proofs.YtmmcmldcbdaooaaDoor
open Go.RowKit Go.Quad _root_.Quad _root_.Quad.Ink

/-- a note of a row's numbers -/
def docN (l : List Nat) (b : List UInt8) : NoteD := ⟨l.getD 1 0 % 256, l.getD 2 0 % 256, l.getD 3 0 % 4294967296, l.getD 4 0 % 4294967296, l.getD 5 0 % 4294967296, l.getD 6 0 % 4294967296, l.getD 7 0 % 4294967296, l.getD 8 0 % 4294967296, l.getD 9 0 % 256, sg (l.getD 10 0), l.getD 11 0 % 4294967296, l.getD 12 0 % 4294967296, b⟩
def refreadnoteL (p : List UInt8) : NoteD × Int :=
  if (rowL p 13 true).2.2 ≠ 0 then (noteZ, (rowL p 13 true).2.2)
  else if (noteL (docN (rowL p 13 true).1 (rowL p 13 true).2.1)).2 = 0 ∧ p = (noteL (docN (rowL p 13 true).1 (rowL p 13 true).2.1)).1 then (docN (rowL p 13 true).1 (rowL p 13 true).2.1, 0) else (noteZ, 4)
theorem docN_ok (l : List Nat) (b : List UInt8) (h : Small l) : (docN l b).Ok := by
  have hg : ∀ i, l.getD i 0 < 18446744073709551616 := by
    intro i
    rw [List.getD_eq_getElem?_getD]
    rcases Nat.lt_or_ge i l.length with hi | hi
    · rw [List.getElem?_eq_getElem hi]; exact h _ (List.getElem_mem hi)
    · rw [List.getElem?_eq_none hi]; decide
  unfold docN
  constructor <;> first | exact Nat.mod_lt _ (by decide) | exact sg_range (hg _)
def Refgotnote (w : World) (r : NoteD × Int) (e : Ending) (w' : World) : Prop :=
  ∃ a c, e = .returned (.tuple #[.agg (noteV r.1 (.slice a r.1.blob.length c)).toArray, .int .i64 r.2]) ∧ BS w' a c r.1.blob ∧ Below w.heap.size w w'

set_option maxRecDepth 100000 in
set_option maxHeartbeats 8000000 in
theorem refreadnote_calls (a : Option Addr) (c N : Nat) (p : List UInt8) (w : World) (h : BS w a c p) (hN : p.length = N) (hl : p.length ≤ 1000000) :
    Calls Tryd.prog 27 #[.slice a N c] w (Refgotnote w (refreadnoteL p)) := by
  obtain ⟨g0, hg0⟩ : ∃ g, w.heap.size = g := ⟨_, rfl⟩
  have hb1 := below_alloc w (.cells [.int .u8 0, .int .u8 0, .int .u32 0, .int .u32 0, .int .u32 0, .int .u32 0, .int .u32 0, .int .u32 0, .int .u8 0, .int .i64 0, .int .u32 0, .int .u32 0, .slice none 0 0].toArray 25)
  have Z0 := hid (show Blk (w.alloc (.cells [.int .u8 0, .int .u8 0, .int .u32 0, .int .u32 0, .int .u32 0, .int .u32 0, .int .u32 0, .int .u32 0, .int .u8 0, .int .i64 0, .int .u32 0, .int .u32 0, .slice none 0 0].toArray 25)) g0 [.int .u8 0, .int .u8 0, .int .u32 0, .int .u32 0, .int .u32 0, .int .u32 0, .int .u32 0, .int .u32 0, .int .u8 0, .int .i64 0, .int .u32 0, .int .u32 0, .slice none 0 0] 25 from by have := blk_alloc w [.int .u8 0, .int .u8 0, .int .u32 0, .int .u32 0, .int .u32 0, .int .u32 0, .int .u32 0, .int .u32 0, .int .u8 0, .int .i64 0, .int .u32 0, .int .u32 0, .slice none 0 0] 25; rw [hg0] at this; exact this)
  have BW := hid hb1
  have HP := hid (h.below hb1)
  have HN := hid hN
  have GZ := hid (show w.heap.size ≤ g0 from by omega)
  have hC := row_calls a c N 13 true p (w.alloc (.cells [.int .u8 0, .int .u8 0, .int .u32 0, .int .u32 0, .int .u32 0, .int .u32 0, .int .u32 0, .int .u32 0, .int .u8 0, .int .i64 0, .int .u32 0, .int .u32 0, .slice none 0 0].toArray 25)) (h.below hb1) hN hl (by decide)
  obtain ⟨res, hres⟩ : ∃ res, refreadnoteL p = res := ⟨_, rfl⟩
  rw [hres]
  unfold refreadnoteL at hres
  have hlen := rowL_len (p := p) (n := 13) (tx := true)
  have hok : ∀ l b, rowL p 13 true = (l, b, 0) → l.length = 13 ∧ Small l := fun l b h => ⟨(rowL_ok h).1, (rowL_ok h).2.1⟩
  generalize rowL p 13 true = r at hC hres hlen hok
  obtain ⟨l, b, cd⟩ := r
  dsimp only at hres hlen
  have HC := hid hC
  have HR := hid hres
  have HK := hid hok
  clear hC hres hok hb1 h hN
  have hl1 : p.length ≤ 1000000 := hl
  go_enter Tryd.func27, Tryd.ntmps27
  go_wp2_with fail
  generalize (w.alloc (.cells [.int .u8 0, .int .u8 0, .int .u32 0, .int .u32 0, .int .u32 0, .int .u32 0, .int .u32 0, .int .u32 0, .int .u8 0, .int .i64 0, .int .u32 0, .int .u32 0, .slice none 0 0].toArray 25)) = w1 at Z0 BW HP HC ⊢
  clear hg0
  refine HC.out.mono ?_
  rintro e w2 ⟨lv, a2, c2, rfl, ho, hs, hna, hb⟩
  obtain ⟨al, nl, cl, rfl, hnl, hcl, hcs⟩ := RO.cs ho
  dsimp only at hs hnl hcs
  have NG := hid (show ∀ x, a2 = some x → x.block ≠ g0 from fun x hx => by have := (hna x hx).1; have := Z0.out.lt; omega)
  replace Z0 := hid (Z0.out.below hb)
  replace HP := hid (HP.out.below hb)
  replace BW := hid (BW.out.trans (hb.mono BW.out.size))
  have HS := hid hs
  clear hna
  have HL := hid hcs
  obtain ⟨nb, hnb⟩ : ∃ nb, b.length = nb := ⟨_, rfl⟩
  rw [hnb] at hlen ⊢
  have HB := hid hnb
  clear ho hb hs hcs HC hnb
  dsimp only
  by_cases h0 : cd = 0
  case' neg =>
    have hq0 : (cd == 0) = false := by simpa using h0
    have hr := HR.out
    rw [if_pos h0] at hr
    clear HR HK h0 HL hnl hcl
    go_upto_region 3 with fail
    repeat (first | (refine wpList_store_blk (o := ⟨none, _, 0, _, _, _⟩) 25 (.tmp 2) (.tmp 18) rfl rfl g0 [.int .u8 0, .int .u8 0, .int .u32 0, .int .u32 0, .int .u32 0, .int .u32 0, .int .u32 0, .int .u32 0, .int .u8 0, .int .i64 0, .int .u32 0, .int .u32 0, .slice none 0 0] [.int .u8 0, .int .u8 0, .int .u32 0, .int .u32 0, .int .u32 0, .int .u32 0, .int .u32 0, .int .u32 0, .int .u8 0, .int .i64 0, .int .u32 0, .int .u32 0, .slice none 0 0] 25 rfl rfl Z0.out rfl (by kernel_rfl) (by simp [Value.oneCell']) ?_; intro wE hZ hE) | go_step)
    refine bodyPost_ret (v := .tuple #[.agg [.int .u8 0, .int .u8 0, .int .u32 0, .int .u32 0, .int .u32 0, .int .u32 0, .int .u32 0, .int .u32 0, .int .u8 0, .int .i64 0, .int .u32 0, .int .u32 0, .slice none 0 0].toArray, .int .i64 cd]) (results_blk2 (fn := Tryd.f27) (p := 2) (q := 3) (ty := 25) rfl _ g0 [.int .u8 0, .int .u8 0, .int .u32 0, .int .u32 0, .int .u32 0, .int .u32 0, .int .u32 0, .int .u32 0, .int .u8 0, .int .i64 0, .int .u32 0, .int .u32 0, .slice none 0 0] 25 (.int .i64 cd) rfl rfl hZ ⟨_, Tryd.underlying25, rfl⟩ (by kernel_rfl)) rfl ?_
    rw [← hr]
    exact ⟨none, 0, rfl, BS.nil _, BW.out.trans (hE.below (B := w.heap.size) BW.out.size (by have := GZ.out; simp; omega))⟩
  subst h0
  have hr := HR.out
  rw [if_neg (show ¬ ((0 : Int) ≠ 0) from by simp)] at hr
  obtain ⟨hll, hsm⟩ := HK.out l b rfl
  clear HR HK
  have hdok := docN_ok l b hsm
  obtain ⟨x0, x1, x2, x3, x4, x5, x6, x7, x8, x9, x10, x11, x12, rfl⟩ := list13 hll
  have s1 : ∀ x ∈ [x0, x1, x2, x3, x4, x5, x6, x7, x8, x9, x10, x11, x12], x < 18446744073709551616 := hsm
  simp only [List.mem_cons, List.not_mem_nil, or_false, forall_eq_or_imp, forall_eq] at s1
  obtain ⟨q0, q1, q2, q3, q4, q5, q6, q7, q8, q9, q10, q11, q12⟩ := s1
  simp only [List.length_cons, List.length_nil] at hnl
  subst hnl
  obtain ⟨bL, oL, rfl, hcell⟩ := HL.out.at (by simp [urV])
  clear hll hsm HL
  obtain ⟨n, hn⟩ : ∃ n, docN [x0, x1, x2, x3, x4, x5, x6, x7, x8, x9, x10, x11, x12] b = n := ⟨_, rfl⟩
  rw [hn] at hr hdok
  have HR := hid hr
  have HO := hid hdok
  clear hr hdok
  have HV := hid (show (noteV n (.slice a2 nb c2)) = [.int .u8 ((x1 : Int) % 256), .int .u8 ((x2 : Int) % 256), .int .u32 ((x3 : Int) % 4294967296), .int .u32 ((x4 : Int) % 4294967296), .int .u32 ((x5 : Int) % 4294967296), .int .u32 ((x6 : Int) % 4294967296), .int .u32 ((x7 : Int) % 4294967296), .int .u32 ((x8 : Int) % 4294967296), .int .u8 ((x9 : Int) % 256), .int .i64 (sg x10), .int .u32 ((x11 : Int) % 4294967296), .int .u32 ((x12 : Int) % 4294967296), .slice a2 nb c2] from by rw [← hn]; rfl)
  have HT := hid (show n.blob = b from by rw [← hn]; rfl)
  clear hn
  have d1 := hcell 1 (.int .u64 (x1 : Int)) rfl
  have d2 := hcell 2 (.int .u64 (x2 : Int)) rfl
  have d3 := hcell 3 (.int .u64 (x3 : Int)) rfl
  have d4 := hcell 4 (.int .u64 (x4 : Int)) rfl
  have d5 := hcell 5 (.int .u64 (x5 : Int)) rfl
  have d6 := hcell 6 (.int .u64 (x6 : Int)) rfl
  have d7 := hcell 7 (.int .u64 (x7 : Int)) rfl
  have d8 := hcell 8 (.int .u64 (x8 : Int)) rfl
  have d9 := hcell 9 (.int .u64 (x9 : Int)) rfl
  have d10 := hcell 10 (.int .u64 (x10 : Int)) rfl
  have d11 := hcell 11 (.int .u64 (x11 : Int)) rfl
  have d12 := hcell 12 (.int .u64 (x12 : Int)) rfl
  clear hcell
  go_upto_region 4 with fail
  refine wp_region_st 56 0 [.r 0 0, .r 0 0, .r 0 0, .r 0 0, .r 0 0, .r 0 0, .r 0 0, .r 0 0, .r 0 0, .r 0 0, .r 0 0, .r 0 0, .r 0 0, .r 0 0, .r 0 0, .r 0 0, .r 0 0, .r 0 0, .r 0 0, .r 0 0, .r 0 0, .r 0 0, .r 0 0, .r 0 0, .r 0 0, .r 0 0, .r 0 0, .r 0 0, .r 0 0, .r 0 0, .r 0 0, .r 0 0, .r 0 0, .r 0 0, .r 0 0, .r 0 0, .r 0 0, .r 0 0, .r 0 0, .r 0 0, .r 0 0, .r 0 0, .r 0 0, .r 0 0, .r 0 0, .r 0 0, .r 0 0, .r 0 0, .r 0 0, .r 0 0, .r 0 0] (fun _ w' => Below w2.heap.size w2 w') (fun _ _ => False) (fun idx v w' => match idx with
    | 0 => v = .slice (some ⟨bL, oL, none⟩) 13 cl
    | 1 => v = .pointer (some ⟨bL, oL + 1, none⟩)
    | 2 => v = .int .u64 (x1 : Int)
    | 3 => v = .int .u8 ((x1 : Int) % 256)
    | 4 => v = .slice (some ⟨bL, oL, none⟩) 13 cl
    | 5 => v = .pointer (some ⟨bL, oL + 2, none⟩)
    | 6 => v = .int .u64 (x2 : Int)
    | 7 => v = .int .u8 ((x2 : Int) % 256)
    | 8 => v = .slice (some ⟨bL, oL, none⟩) 13 cl
    | 9 => v = .pointer (some ⟨bL, oL + 3, none⟩)
    | 10 => v = .int .u64 (x3 : Int)
    | 11 => v = .int .u32 ((x3 : Int) % 4294967296)
    | 12 => v = .slice (some ⟨bL, oL, none⟩) 13 cl
    | 13 => v = .pointer (some ⟨bL, oL + 4, none⟩)
    | 14 => v = .int .u64 (x4 : Int)
    | 15 => v = .int .u32 ((x4 : Int) % 4294967296)
    | 16 => v = .slice (some ⟨bL, oL, none⟩) 13 cl
    | 17 => v = .pointer (some ⟨bL, oL + 5, none⟩)
    | 18 => v = .int .u64 (x5 : Int)
    | 19 => v = .int .u32 ((x5 : Int) % 4294967296)
    | 20 => v = .slice (some ⟨bL, oL, none⟩) 13 cl
    | 21 => v = .pointer (some ⟨bL, oL + 6, none⟩)
    | 22 => v = .int .u64 (x6 : Int)
    | 23 => v = .int .u32 ((x6 : Int) % 4294967296)
    | 24 => v = .slice (some ⟨bL, oL, none⟩) 13 cl
    | 25 => v = .pointer (some ⟨bL, oL + 7, none⟩)
    | 26 => v = .int .u64 (x7 : Int)
    | 27 => v = .int .u32 ((x7 : Int) % 4294967296)
    | 28 => v = .slice (some ⟨bL, oL, none⟩) 13 cl
    | 29 => v = .pointer (some ⟨bL, oL + 8, none⟩)
    | 30 => v = .int .u64 (x8 : Int)
    | 31 => v = .int .u32 ((x8 : Int) % 4294967296)
    | 32 => v = .slice (some ⟨bL, oL, none⟩) 13 cl
    | 33 => v = .pointer (some ⟨bL, oL + 9, none⟩)
    | 34 => v = .int .u64 (x9 : Int)
    | 35 => v = .int .u8 ((x9 : Int) % 256)
    | 36 => v = .slice (some ⟨bL, oL, none⟩) 13 cl
    | 37 => v = .pointer (some ⟨bL, oL + 10, none⟩)
    | 38 => v = .int .u64 (x10 : Int)
    | 39 => v = .int .i64 (sg x10)
    | 40 => v = .slice (some ⟨bL, oL, none⟩) 13 cl
    | 41 => v = .pointer (some ⟨bL, oL + 11, none⟩)
    | 42 => v = .int .u64 (x11 : Int)
    | 43 => v = .int .u32 ((x11 : Int) % 4294967296)
    | 44 => v = .slice (some ⟨bL, oL, none⟩) 13 cl
    | 45 => v = .pointer (some ⟨bL, oL + 12, none⟩)
    | 46 => v = .int .u64 (x12 : Int)
    | 47 => v = .int .u32 ((x12 : Int) % 4294967296)
    | 48 => v = .slice a2 nb c2
    | 49 => v = .agg [.int .u8 ((x1 : Int) % 256), .int .u8 ((x2 : Int) % 256), .int .u32 ((x3 : Int) % 4294967296), .int .u32 ((x4 : Int) % 4294967296), .int .u32 ((x5 : Int) % 4294967296), .int .u32 ((x6 : Int) % 4294967296), .int .u32 ((x7 : Int) % 4294967296), .int .u32 ((x8 : Int) % 4294967296), .int .u8 ((x9 : Int) % 256), .int .i64 (sg x10), .int .u32 ((x11 : Int) % 4294967296), .int .u32 ((x12 : Int) % 4294967296), .slice a2 nb c2].toArray
    | 50 => ∃ g, v = .pointer (some ⟨g, 0, none⟩) ∧ Blk w' g [.int .u8 0, .int .u8 0, .int .u32 0, .int .u32 0, .int .u32 0, .int .u32 0, .int .u32 0, .int .u32 0, .int .u8 0, .int .i64 0, .int .u32 0, .int .u32 0, .slice none 0 0] 25 ∧ w2.heap.size ≤ g
    | _ => True) (by kernel_rfl) (by kernel_rfl) (by kernel_rfl) (by kernel_rfl) ?_ ?_ ?_ ?_ ?_ ?_
  · intro j v wx wy hR hb
    match j, hR with
    | 0, hR | 1, hR | 2, hR | 3, hR | 4, hR | 5, hR | 6, hR | 7, hR | 8, hR | 9, hR | 10, hR | 11, hR | 12, hR | 13, hR | 14, hR | 15, hR | 16, hR | 17, hR | 18, hR | 19, hR | 20, hR | 21, hR | 22, hR | 23, hR | 24, hR | 25, hR | 26, hR | 27, hR | 28, hR | 29, hR | 30, hR | 31, hR | 32, hR | 33, hR | 34, hR | 35, hR | 36, hR | 37, hR | 38, hR | 39, hR | 40, hR | 41, hR | 42, hR | 43, hR | 44, hR | 45, hR | 46, hR | 47, hR | 48, hR | 49, hR => exact hR
    | 50, hR => exact (by obtain ⟨g, e, h1, h2⟩ := hR; exact ⟨g, e, h1.below hb, h2⟩)
    | _ + 51, _ => trivial
  · intro j v wx wy hR hF; exact hF.elim
  · intro ph wx wy hS hb; exact hS.trans (hb.mono hS.size)
  · exact below_drew w2
  · refine ⟨?_, ?_, ?_, ?_, ?_, ?_, ?_, ?_, ?_, ?_, ?_, ?_, ?_, ?_, ?_, ?_, ?_, ?_, ?_, ?_, ?_, ?_, ?_, ?_, ?_, ?_, ?_, ?_, ?_, ?_, ?_, ?_, ?_, ?_, ?_, ?_, ?_, ?_, ?_, ?_, ?_, ?_, ?_, ?_, ?_, ?_, ?_, ?_, ?_, ?_, ?_, trivial⟩
    all_goals intro ρ wx hc hg hf
    all_goals intro ph _ _ hS
    all_goals replace hS : Below w2.heap.size w2 wx := hS
    · intro (h0 : ρ (.tmp 4) = .slice (some ⟨bL, oL, none⟩) 13 cl)
      exact opOk_move _ rfl ⟨Below.refl _ _, h0⟩
    · intro (h0 : ρ (.tmp 20) = .slice (some ⟨bL, oL, none⟩) 13 cl)
      exact opOk_run (v := .pointer (some ⟨bL, oL + 1, none⟩)) (w' := wx) (by go_simp) ⟨Below.refl _ _, rfl⟩
    · intro (h0 : ρ (.tmp 21) = .pointer (some ⟨bL, oL + 1, none⟩))
      exact opOk_load _ _ rfl _ _ h0 (run_u64_at _ _ _ _ (cell_later hS d1)) ⟨Below.refl _ _, rfl⟩
    · intro (h0 : ρ (.tmp 22) = .int .u64 (x1 : Int))
      exact opOk_convI _ _ (.tmp 22) rfl .u64 .u8 _ _ h0 (by kernel_rfl) (by kernel_rfl) (wrap_u8 _) ⟨Below.refl _ _, rfl⟩
    · intro (h0 : ρ (.tmp 4) = .slice (some ⟨bL, oL, none⟩) 13 cl)
      exact opOk_move _ rfl ⟨Below.refl _ _, h0⟩
    · intro (h0 : ρ (.tmp 24) = .slice (some ⟨bL, oL, none⟩) 13 cl)
      exact opOk_run (v := .pointer (some ⟨bL, oL + 2, none⟩)) (w' := wx) (by go_simp) ⟨Below.refl _ _, rfl⟩
    · intro (h0 : ρ (.tmp 25) = .pointer (some ⟨bL, oL + 2, none⟩))
      exact opOk_load _ _ rfl _ _ h0 (run_u64_at _ _ _ _ (cell_later hS d2)) ⟨Below.refl _ _, rfl⟩
    · intro (h0 : ρ (.tmp 26) = .int .u64 (x2 : Int))
      exact opOk_convI _ _ (.tmp 26) rfl .u64 .u8 _ _ h0 (by kernel_rfl) (by kernel_rfl) (wrap_u8 _) ⟨Below.refl _ _, rfl⟩
    · intro (h0 : ρ (.tmp 4) = .slice (some ⟨bL, oL, none⟩) 13 cl)
      exact opOk_move _ rfl ⟨Below.refl _ _, h0⟩
    · intro (h0 : ρ (.tmp 28) = .slice (some ⟨bL, oL, none⟩) 13 cl)
      exact opOk_run (v := .pointer (some ⟨bL, oL + 3, none⟩)) (w' := wx) (by go_simp) ⟨Below.refl _ _, rfl⟩
    · intro (h0 : ρ (.tmp 29) = .pointer (some ⟨bL, oL + 3, none⟩))
      exact opOk_load _ _ rfl _ _ h0 (run_u64_at _ _ _ _ (cell_later hS d3)) ⟨Below.refl _ _, rfl⟩
    · intro (h0 : ρ (.tmp 30) = .int .u64 (x3 : Int))
      exact opOk_convI _ _ (.tmp 30) rfl .u64 .u32 _ _ h0 (by kernel_rfl) (by kernel_rfl) (wrap_u32 _) ⟨Below.refl _ _, rfl⟩
    · intro (h0 : ρ (.tmp 4) = .slice (some ⟨bL, oL, none⟩) 13 cl)
      exact opOk_move _ rfl ⟨Below.refl _ _, h0⟩
    · intro (h0 : ρ (.tmp 32) = .slice (some ⟨bL, oL, none⟩) 13 cl)
      exact opOk_run (v := .pointer (some ⟨bL, oL + 4, none⟩)) (w' := wx) (by go_simp) ⟨Below.refl _ _, rfl⟩
    · intro (h0 : ρ (.tmp 33) = .pointer (some ⟨bL, oL + 4, none⟩))
      exact opOk_load _ _ rfl _ _ h0 (run_u64_at _ _ _ _ (cell_later hS d4)) ⟨Below.refl _ _, rfl⟩
    · intro (h0 : ρ (.tmp 34) = .int .u64 (x4 : Int))
      exact opOk_convI _ _ (.tmp 34) rfl .u64 .u32 _ _ h0 (by kernel_rfl) (by kernel_rfl) (wrap_u32 _) ⟨Below.refl _ _, rfl⟩
    · intro (h0 : ρ (.tmp 4) = .slice (some ⟨bL, oL, none⟩) 13 cl)
      exact opOk_move _ rfl ⟨Below.refl _ _, h0⟩
    · intro (h0 : ρ (.tmp 36) = .slice (some ⟨bL, oL, none⟩) 13 cl)
      exact opOk_run (v := .pointer (some ⟨bL, oL + 5, none⟩)) (w' := wx) (by go_simp) ⟨Below.refl _ _, rfl⟩
    · intro (h0 : ρ (.tmp 37) = .pointer (some ⟨bL, oL + 5, none⟩))
      exact opOk_load _ _ rfl _ _ h0 (run_u64_at _ _ _ _ (cell_later hS d5)) ⟨Below.refl _ _, rfl⟩
    · intro (h0 : ρ (.tmp 38) = .int .u64 (x5 : Int))
      exact opOk_convI _ _ (.tmp 38) rfl .u64 .u32 _ _ h0 (by kernel_rfl) (by kernel_rfl) (wrap_u32 _) ⟨Below.refl _ _, rfl⟩
    · intro (h0 : ρ (.tmp 4) = .slice (some ⟨bL, oL, none⟩) 13 cl)
      exact opOk_move _ rfl ⟨Below.refl _ _, h0⟩
    · intro (h0 : ρ (.tmp 40) = .slice (some ⟨bL, oL, none⟩) 13 cl)
      exact opOk_run (v := .pointer (some ⟨bL, oL + 6, none⟩)) (w' := wx) (by go_simp) ⟨Below.refl _ _, rfl⟩
    · intro (h0 : ρ (.tmp 41) = .pointer (some ⟨bL, oL + 6, none⟩))
      exact opOk_load _ _ rfl _ _ h0 (run_u64_at _ _ _ _ (cell_later hS d6)) ⟨Below.refl _ _, rfl⟩
    · intro (h0 : ρ (.tmp 42) = .int .u64 (x6 : Int))
      exact opOk_convI _ _ (.tmp 42) rfl .u64 .u32 _ _ h0 (by kernel_rfl) (by kernel_rfl) (wrap_u32 _) ⟨Below.refl _ _, rfl⟩
    · intro (h0 : ρ (.tmp 4) = .slice (some ⟨bL, oL, none⟩) 13 cl)
      exact opOk_move _ rfl ⟨Below.refl _ _, h0⟩
    · intro (h0 : ρ (.tmp 44) = .slice (some ⟨bL, oL, none⟩) 13 cl)
      exact opOk_run (v := .pointer (some ⟨bL, oL + 7, none⟩)) (w' := wx) (by go_simp) ⟨Below.refl _ _, rfl⟩
    · intro (h0 : ρ (.tmp 45) = .pointer (some ⟨bL, oL + 7, none⟩))
      exact opOk_load _ _ rfl _ _ h0 (run_u64_at _ _ _ _ (cell_later hS d7)) ⟨Below.refl _ _, rfl⟩
    · intro (h0 : ρ (.tmp 46) = .int .u64 (x7 : Int))
      exact opOk_convI _ _ (.tmp 46) rfl .u64 .u32 _ _ h0 (by kernel_rfl) (by kernel_rfl) (wrap_u32 _) ⟨Below.refl _ _, rfl⟩
    · intro (h0 : ρ (.tmp 4) = .slice (some ⟨bL, oL, none⟩) 13 cl)
      exact opOk_move _ rfl ⟨Below.refl _ _, h0⟩
    · intro (h0 : ρ (.tmp 48) = .slice (some ⟨bL, oL, none⟩) 13 cl)
      exact opOk_run (v := .pointer (some ⟨bL, oL + 8, none⟩)) (w' := wx) (by go_simp) ⟨Below.refl _ _, rfl⟩
    · intro (h0 : ρ (.tmp 49) = .pointer (some ⟨bL, oL + 8, none⟩))
      exact opOk_load _ _ rfl _ _ h0 (run_u64_at _ _ _ _ (cell_later hS d8)) ⟨Below.refl _ _, rfl⟩
    · intro (h0 : ρ (.tmp 50) = .int .u64 (x8 : Int))
      exact opOk_convI _ _ (.tmp 50) rfl .u64 .u32 _ _ h0 (by kernel_rfl) (by kernel_rfl) (wrap_u32 _) ⟨Below.refl _ _, rfl⟩
    · intro (h0 : ρ (.tmp 4) = .slice (some ⟨bL, oL, none⟩) 13 cl)
      exact opOk_move _ rfl ⟨Below.refl _ _, h0⟩
    · intro (h0 : ρ (.tmp 52) = .slice (some ⟨bL, oL, none⟩) 13 cl)
      exact opOk_run (v := .pointer (some ⟨bL, oL + 9, none⟩)) (w' := wx) (by go_simp) ⟨Below.refl _ _, rfl⟩
    · intro (h0 : ρ (.tmp 53) = .pointer (some ⟨bL, oL + 9, none⟩))
      exact opOk_load _ _ rfl _ _ h0 (run_u64_at _ _ _ _ (cell_later hS d9)) ⟨Below.refl _ _, rfl⟩
    · intro (h0 : ρ (.tmp 54) = .int .u64 (x9 : Int))
      exact opOk_convI _ _ (.tmp 54) rfl .u64 .u8 _ _ h0 (by kernel_rfl) (by kernel_rfl) (wrap_u8 _) ⟨Below.refl _ _, rfl⟩
    · intro (h0 : ρ (.tmp 4) = .slice (some ⟨bL, oL, none⟩) 13 cl)
      exact opOk_move _ rfl ⟨Below.refl _ _, h0⟩
    · intro (h0 : ρ (.tmp 56) = .slice (some ⟨bL, oL, none⟩) 13 cl)
      exact opOk_run (v := .pointer (some ⟨bL, oL + 10, none⟩)) (w' := wx) (by go_simp) ⟨Below.refl _ _, rfl⟩
    · intro (h0 : ρ (.tmp 57) = .pointer (some ⟨bL, oL + 10, none⟩))
      exact opOk_load _ _ rfl _ _ h0 (run_u64_at _ _ _ _ (cell_later hS d10)) ⟨Below.refl _ _, rfl⟩
    · intro (h0 : ρ (.tmp 58) = .int .u64 (x10 : Int))
      exact opOk_convI _ _ (.tmp 58) rfl .u64 .i64 _ _ h0 (by kernel_rfl) (by kernel_rfl) (wrap_sg q10) ⟨Below.refl _ _, rfl⟩
    · intro (h0 : ρ (.tmp 4) = .slice (some ⟨bL, oL, none⟩) 13 cl)
      exact opOk_move _ rfl ⟨Below.refl _ _, h0⟩
    · intro (h0 : ρ (.tmp 60) = .slice (some ⟨bL, oL, none⟩) 13 cl)
      exact opOk_run (v := .pointer (some ⟨bL, oL + 11, none⟩)) (w' := wx) (by go_simp) ⟨Below.refl _ _, rfl⟩
    · intro (h0 : ρ (.tmp 61) = .pointer (some ⟨bL, oL + 11, none⟩))
      exact opOk_load _ _ rfl _ _ h0 (run_u64_at _ _ _ _ (cell_later hS d11)) ⟨Below.refl _ _, rfl⟩
    · intro (h0 : ρ (.tmp 62) = .int .u64 (x11 : Int))
      exact opOk_convI _ _ (.tmp 62) rfl .u64 .u32 _ _ h0 (by kernel_rfl) (by kernel_rfl) (wrap_u32 _) ⟨Below.refl _ _, rfl⟩
    · intro (h0 : ρ (.tmp 4) = .slice (some ⟨bL, oL, none⟩) 13 cl)
      exact opOk_move _ rfl ⟨Below.refl _ _, h0⟩
    · intro (h0 : ρ (.tmp 64) = .slice (some ⟨bL, oL, none⟩) 13 cl)
      exact opOk_run (v := .pointer (some ⟨bL, oL + 12, none⟩)) (w' := wx) (by go_simp) ⟨Below.refl _ _, rfl⟩
    · intro (h0 : ρ (.tmp 65) = .pointer (some ⟨bL, oL + 12, none⟩))
      exact opOk_load _ _ rfl _ _ h0 (run_u64_at _ _ _ _ (cell_later hS d12)) ⟨Below.refl _ _, rfl⟩
    · intro (h0 : ρ (.tmp 66) = .int .u64 (x12 : Int))
      exact opOk_convI _ _ (.tmp 66) rfl .u64 .u32 _ _ h0 (by kernel_rfl) (by kernel_rfl) (wrap_u32 _) ⟨Below.refl _ _, rfl⟩
    · intro (h0 : ρ (.tmp 5) = .slice a2 nb c2)
      exact opOk_move _ rfl ⟨Below.refl _ _, h0⟩
    · intro (h0 : ρ (.tmp 23) = .int .u8 ((x1 : Int) % 256)) (h1 : ρ (.tmp 27) = .int .u8 ((x2 : Int) % 256)) (h2 : ρ (.tmp 31) = .int .u32 ((x3 : Int) % 4294967296)) (h3 : ρ (.tmp 35) = .int .u32 ((x4 : Int) % 4294967296)) (h4 : ρ (.tmp 39) = .int .u32 ((x5 : Int) % 4294967296)) (h5 : ρ (.tmp 43) = .int .u32 ((x6 : Int) % 4294967296)) (h6 : ρ (.tmp 47) = .int .u32 ((x7 : Int) % 4294967296)) (h7 : ρ (.tmp 51) = .int .u32 ((x8 : Int) % 4294967296)) (h8 : ρ (.tmp 55) = .int .u8 ((x9 : Int) % 256)) (h9 : ρ (.tmp 59) = .int .i64 (sg x10)) (h10 : ρ (.tmp 63) = .int .u32 ((x11 : Int) % 4294967296)) (h11 : ρ (.tmp 67) = .int .u32 ((x12 : Int) % 4294967296)) (hb : ρ (.tmp 68) = .slice a2 nb c2)
      exact opOk_run (v := .agg [.int .u8 ((x1 : Int) % 256), .int .u8 ((x2 : Int) % 256), .int .u32 ((x3 : Int) % 4294967296), .int .u32 ((x4 : Int) % 4294967296), .int .u32 ((x5 : Int) % 4294967296), .int .u32 ((x6 : Int) % 4294967296), .int .u32 ((x7 : Int) % 4294967296), .int .u32 ((x8 : Int) % 4294967296), .int .u8 ((x9 : Int) % 256), .int .i64 (sg x10), .int .u32 ((x11 : Int) % 4294967296), .int .u32 ((x12 : Int) % 4294967296), .slice a2 nb c2].toArray) (w' := wx) (by go_simp) ⟨Below.refl _ _, rfl⟩
    · refine GuF.plain rfl (InF.nil rfl ?_)
      refine opOk_run (v := .pointer (some ⟨wx.heap.size, 0, none⟩)) (w' := wx.alloc (.cells [.int .u8 0, .int .u8 0, .int .u32 0, .int .u32 0, .int .u32 0, .int .u32 0, .int .u32 0, .int .u32 0, .int .u8 0, .int .i64 0, .int .u32 0, .int .u32 0, .slice none 0 0].toArray 25)) ?_ ?_
      · go_simp
      · exact ⟨below_alloc _ _, wx.heap.size, rfl, blk_alloc wx [.int .u8 0, .int .u8 0, .int .u32 0, .int .u32 0, .int .u32 0, .int .u32 0, .int .u32 0, .int .u32 0, .int .u8 0, .int .i64 0, .int .u32 0, .int .u32 0, .slice none 0 0] 25, hS.size⟩
  · intro wz hS
    rintro _ rfl _ rfl _ rfl _ rfl _ rfl _ rfl _ rfl _ rfl _ rfl _ rfl _ rfl _ rfl _ rfl _ rfl _ rfl _ rfl _ rfl _ rfl _ rfl _ rfl _ rfl _ rfl _ rfl _ rfl _ rfl _ rfl _ rfl _ rfl _ rfl _ rfl _ rfl _ rfl _ rfl _ rfl _ rfl _ rfl _ rfl _ rfl _ rfl _ rfl _ rfl _ rfl _ rfl _ rfl _ rfl _ rfl _ rfl _ rfl _ rfl _ rfl
    simp only [Act.put, List.setIfInBounds_toArray, List.set_cons_succ, List.set_cons_zero]
    refine PutLast.lastNew [.int .u8 0, .int .u8 0, .int .u32 0, .int .u32 0, .int .u32 0, .int .u32 0, .int .u32 0, .int .u32 0, .int .u8 0, .int .i64 0, .int .u32 0, .int .u32 0, .slice none 0 0] 25 w2.heap.size ?_ (fun v h => h)
    refine fun g7 hM hg7 => ?_
    simp only [Act.put, List.setIfInBounds_toArray, List.set_cons_succ, List.set_cons_zero]
    replace hS : Below w2.heap.size w2 wz := hS
    refine opOk_store_row 25 (.tmp 7) (.tmp 69) rfl g7 0 [.int .u8 ((x1 : Int) % 256), .int .u8 ((x2 : Int) % 256), .int .u32 ((x3 : Int) % 4294967296), .int .u32 ((x4 : Int) % 4294967296), .int .u32 ((x5 : Int) % 4294967296), .int .u32 ((x6 : Int) % 4294967296), .int .u32 ((x7 : Int) % 4294967296), .int .u32 ((x8 : Int) % 4294967296), .int .u8 ((x9 : Int) % 256), .int .i64 (sg x10), .int .u32 ((x11 : Int) % 4294967296), .int .u32 ((x12 : Int) % 4294967296), .slice a2 nb c2] [.int .u8 0, .int .u8 0, .int .u32 0, .int .u32 0, .int .u32 0, .int .u32 0, .int .u32 0, .int .u32 0, .int .u8 0, .int .i64 0, .int .u32 0, .int .u32 0, .slice none 0 0] 25 rfl rfl hM (by simp only [List.length_cons, List.length_nil]; omega) (by kernel_rfl) (by intro u hu; simp only [List.mem_cons, List.not_mem_nil, or_false] at hu; rcases hu with rfl | rfl | rfl | rfl | rfl | rfl | rfl | rfl | rfl | rfl | rfl | rfl | rfl <;> rfl) ?_
    intro hM2 hC2
    generalize wz.setCells g7 0 [.int .u8 ((x1 : Int) % 256), .int .u8 ((x2 : Int) % 256), .int .u32 ((x3 : Int) % 4294967296), .int .u32 ((x4 : Int) % 4294967296), .int .u32 ((x5 : Int) % 4294967296), .int .u32 ((x6 : Int) % 4294967296), .int .u32 ((x7 : Int) % 4294967296), .int .u32 ((x8 : Int) % 4294967296), .int .u8 ((x9 : Int) % 256), .int .i64 (sg x10), .int .u32 ((x11 : Int) % 4294967296), .int .u32 ((x12 : Int) % 4294967296), .slice a2 nb c2] = w3 at hM2 hC2 ⊢
    have M := hid (show Blk w3 g7 (noteV n (.slice a2 nb c2)) 25 from by rw [HV.out]; exact hM2)
    have hB := hS.trans (hC2.below (B := w2.heap.size) hS.size (by simp; omega))
    clear hC2 hM2 hS hM d1 d2 d3 d4 d5 d6 d7 d8 d9 d10 d11 d12
    replace Z0 := hid (Z0.out.below hB)
    replace HP := hid (HP.out.below hB)
    replace HS := hid (HS.out.below hB)
    replace BW := hid (BW.out.trans (hB.mono BW.out.size))
    clear hB hg7
    repeat (first | (refine wpList_load_blk (o := ⟨some 71, _, _, _, _, _⟩) 25 (.tmp 7) rfl rfl g7 (noteV n (.slice a2 nb c2)) 25 rfl M.out ⟨_, Tryd.underlying25, rfl⟩ (by kernel_rfl) ?_) | go_step)
    obtain ⟨y0, hy0⟩ : ∃ y, (noteL n).1 = y := ⟨_, rfl⟩
    obtain ⟨e0, he0⟩ : ∃ y, (noteL n).2 = y := ⟨_, rfl⟩
    have HY := hid hy0
    have HE := hid he0
    have hr := HR.out
    rw [hy0, he0] at hr
    replace HR := hid hr
    clear hy0 he0 hr
    have hC := refnote_calls n a2 c2 w3 HO.out (by rw [HT.out]; exact HS.out) (by rw [HT.out, HB.out]; omega)
    rw [HT.out, HB.out] at hC
    rw [HY.out, HE.out] at hC
    refine hC.mono ?_
    rintro e w7 ⟨v, rfl, ho, hb⟩
    obtain ⟨p1, n1, r1, rfl, hn, hs, _⟩ := ob_n ho
    have P1 := hid hs
    have N1 := hid hn
    replace Z0 := hid (Z0.out.below hb)
    replace HP := hid (HP.out.below hb)
    replace HS := hid (HS.out.below hb)
    replace M := hid (M.out.below hb)
    replace BW := hid (BW.out.trans (hb.mono BW.out.size))
    clear ho hs hn hb hC
    dsimp only
    have hbad : ∀ (X : World), Below w.heap.size w X → res = (noteZ, 4) → Refgotnote w res (.returned (.tuple #[.agg [.int .u8 0, .int .u8 0, .int .u32 0, .int .u32 0, .int .u32 0, .int .u32 0, .int .u32 0, .int .u32 0, .int .u8 0, .int .i64 0, .int .u32 0, .int .u32 0, .slice none 0 0].toArray, .int .i64 4])) X := by
      intro X hX hr
      rw [hr]
      exact ⟨none, 0, rfl, BS.nil _, hX⟩
    have HBad := hid hbad
    have hgood : ∀ (X : World), Below w.heap.size w X → BS X a2 c2 b → res = (n, 0) → Refgotnote w res (.returned (.tuple #[.agg (noteV n (.slice a2 nb c2)).toArray, .int .i64 0])) X := by
      intro X hX hs hr
      rw [hr]
      exact ⟨a2, c2, by dsimp only; rw [HT.out, HB.out], by dsimp only; rw [HT.out]; exact hs, hX⟩
    have HGood := hid hgood
    clear hbad hgood
    rcases noteL_code n with ⟨f, z⟩ | ⟨f, z⟩
    case' inr =>
      obtain rfl : e0 = 4 := by rw [← HE.out, z]
      have hr := HR.out
      rw [if_neg (by simp)] at hr
      replace HR := hid hr
      clear f z hr
      go_upto_region 7 with fail
      repeat (first | (refine wpList_store_blk (o := ⟨none, _, 0, _, _, _⟩) 25 (.tmp 2) (.tmp 83) rfl rfl g0 [.int .u8 0, .int .u8 0, .int .u32 0, .int .u32 0, .int .u32 0, .int .u32 0, .int .u32 0, .int .u32 0, .int .u8 0, .int .i64 0, .int .u32 0, .int .u32 0, .slice none 0 0] [.int .u8 0, .int .u8 0, .int .u32 0, .int .u32 0, .int .u32 0, .int .u32 0, .int .u32 0, .int .u32 0, .int .u8 0, .int .i64 0, .int .u32 0, .int .u32 0, .slice none 0 0] 25 rfl rfl Z0.out rfl (by kernel_rfl) (by simp [Value.oneCell']) ?_; intro wE hZ hE) | go_step)
      refine bodyPost_ret (v := .tuple #[.agg [.int .u8 0, .int .u8 0, .int .u32 0, .int .u32 0, .int .u32 0, .int .u32 0, .int .u32 0, .int .u32 0, .int .u8 0, .int .i64 0, .int .u32 0, .int .u32 0, .slice none 0 0].toArray, .int .i64 4]) (results_blk2 (fn := Tryd.f27) (p := 2) (q := 3) (ty := 25) rfl _ g0 [.int .u8 0, .int .u8 0, .int .u32 0, .int .u32 0, .int .u32 0, .int .u32 0, .int .u32 0, .int .u32 0, .int .u8 0, .int .i64 0, .int .u32 0, .int .u32 0, .slice none 0 0] 25 (.int .i64 4) rfl rfl hZ ⟨_, Tryd.underlying25, rfl⟩ (by kernel_rfl)) rfl ?_
      exact HBad.out _ (BW.out.trans (hE.below (B := w.heap.size) BW.out.size (by have := GZ.out; simp; omega))) HR.out.symm
    obtain rfl : e0 = 0 := by rw [← HE.out, z]
    clear f z
    go_upto_region 6 with fail
    go_wp2_with fail
    refine (same_n _ _ _ _ _ _ _ _ _ HP.out P1.out HN.out N1.out).mono ?_
    rintro e w' ⟨rfl, rfl⟩
    dsimp only
    obtain ⟨sb, hsb⟩ : ∃ b, (p == y0) = b := ⟨_, rfl⟩
    rw [hsb]
    cases sb
    case' false =>
      have hne : p ≠ y0 := by simpa using hsb
      have hr := HR.out
      rw [if_neg (by simp [hne])] at hr
      replace HR := hid hr
      clear hne hsb hr
      go_upto_region 7 with fail
      repeat (first | (refine wpList_store_blk (o := ⟨none, _, 0, _, _, _⟩) 25 (.tmp 2) (.tmp 83) rfl rfl g0 [.int .u8 0, .int .u8 0, .int .u32 0, .int .u32 0, .int .u32 0, .int .u32 0, .int .u32 0, .int .u32 0, .int .u8 0, .int .i64 0, .int .u32 0, .int .u32 0, .slice none 0 0] [.int .u8 0, .int .u8 0, .int .u32 0, .int .u32 0, .int .u32 0, .int .u32 0, .int .u32 0, .int .u32 0, .int .u8 0, .int .i64 0, .int .u32 0, .int .u32 0, .slice none 0 0] 25 rfl rfl Z0.out rfl (by kernel_rfl) (by simp [Value.oneCell']) ?_; intro wE hZ hE) | go_step)
      refine bodyPost_ret (v := .tuple #[.agg [.int .u8 0, .int .u8 0, .int .u32 0, .int .u32 0, .int .u32 0, .int .u32 0, .int .u32 0, .int .u32 0, .int .u8 0, .int .i64 0, .int .u32 0, .int .u32 0, .slice none 0 0].toArray, .int .i64 4]) (results_blk2 (fn := Tryd.f27) (p := 2) (q := 3) (ty := 25) rfl _ g0 [.int .u8 0, .int .u8 0, .int .u32 0, .int .u32 0, .int .u32 0, .int .u32 0, .int .u32 0, .int .u32 0, .int .u8 0, .int .i64 0, .int .u32 0, .int .u32 0, .slice none 0 0] 25 (.int .i64 4) rfl rfl hZ ⟨_, Tryd.underlying25, rfl⟩ (by kernel_rfl)) rfl ?_
      exact HBad.out _ (BW.out.trans (hE.below (B := w.heap.size) BW.out.size (by have := GZ.out; simp; omega))) HR.out.symm
    have heq : p = y0 := by simpa using hsb
    have hr := HR.out
    simp only [heq, true_and, and_self, if_true] at hr
    replace HR := hid hr
    clear heq hsb hr
    go_upto_region 8 with fail
    repeat (first | (refine wpList_load_blk (o := ⟨some 84, _, _, _, _, _⟩) 25 (.tmp 7) rfl rfl g7 (noteV n (.slice a2 nb c2)) 25 rfl M.out ⟨_, Tryd.underlying25, rfl⟩ (by kernel_rfl) ?_) | (refine wpList_store_blk (o := ⟨none, _, 0, _, _, _⟩) 25 (.tmp 2) (.tmp 84) rfl rfl g0 [.int .u8 0, .int .u8 0, .int .u32 0, .int .u32 0, .int .u32 0, .int .u32 0, .int .u32 0, .int .u32 0, .int .u8 0, .int .i64 0, .int .u32 0, .int .u32 0, .slice none 0 0] (noteV n (.slice a2 nb c2)) 25 rfl rfl Z0.out rfl (by kernel_rfl) (by intro u hu; rw [HV.out] at hu; simp only [List.mem_cons, List.not_mem_nil, or_false] at hu; rcases hu with rfl | rfl | rfl | rfl | rfl | rfl | rfl | rfl | rfl | rfl | rfl | rfl | rfl <;> rfl) ?_; intro wE hZ hE) | go_step)
    refine bodyPost_ret (v := .tuple #[.agg (noteV n (.slice a2 nb c2)).toArray, .int .i64 0]) (results_blk2 (fn := Tryd.f27) (p := 2) (q := 3) (ty := 25) rfl _ g0 (noteV n (.slice a2 nb c2)) 25 (.int .i64 0) rfl rfl hZ ⟨_, Tryd.underlying25, rfl⟩ (by kernel_rfl)) rfl ?_
    exact HGood.out _ (BW.out.trans (hE.below (B := w.heap.size) BW.out.size (by have := GZ.out; simp; omega))) (CS.chg HS.out hE (by intro x hx; have := NG.out x hx; simpa using this)) HR.out.symm
end Go.Proofs.YtmmcmldcbdaooaaDoor
