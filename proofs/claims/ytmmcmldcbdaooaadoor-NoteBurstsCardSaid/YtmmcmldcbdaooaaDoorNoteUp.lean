/- The walks of layer 4: the document's reader of packets. -/
import Derived.Test.YtmmcmldcbdaooaaDoorNoteU
namespace Go.Proofs.YtmmcmldcbdaooaaDoor
open Go.RowKit Go.Quad _root_.Quad _root_.Quad.Ink

/-- a packet of a row's numbers -/
def docP (l : List Nat) (b : List UInt8) : PakD := ⟨l.getD 1 0 % 256, l.getD 2 0 % 4294967296, l.getD 3 0 % 4294967296, l.getD 4 0 % 4294967296, l.getD 5 0 % 4294967296, ((l.getD 6 0 : Int) == 1), b⟩
def refreadpakL (p : List UInt8) : PakD × Int :=
  if (rowL p 7 true).2.2 ≠ 0 then (pakZ, (rowL p 7 true).2.2)
  else if (pakL (docP (rowL p 7 true).1 (rowL p 7 true).2.1)).2 = 0 ∧ p = (pakL (docP (rowL p 7 true).1 (rowL p 7 true).2.1)).1 then (docP (rowL p 7 true).1 (rowL p 7 true).2.1, 0) else (pakZ, 4)
theorem docP_ok (l : List Nat) (b : List UInt8) (h : Small l) : (docP l b).Ok := by
  have hg : ∀ i, l.getD i 0 < 18446744073709551616 := by
    intro i
    rw [List.getD_eq_getElem?_getD]
    rcases Nat.lt_or_ge i l.length with hi | hi
    · rw [List.getElem?_eq_getElem hi]; exact h _ (List.getElem_mem hi)
    · rw [List.getElem?_eq_none hi]; decide
  unfold docP
  constructor <;> first | exact Nat.mod_lt _ (by decide) | exact sg_range (hg _)
def Refgotpak (w : World) (r : PakD × Int) (e : Ending) (w' : World) : Prop :=
  ∃ a c, e = .returned (.tuple #[.agg (pakV r.1 (.slice a r.1.data.length c)).toArray, .int .i64 r.2]) ∧ BS w' a c r.1.data ∧ Below w.heap.size w w'

set_option maxRecDepth 100000 in
set_option maxHeartbeats 8000000 in
theorem refreadpak_calls (a : Option Addr) (c N : Nat) (p : List UInt8) (w : World) (h : BS w a c p) (hN : p.length = N) (hl : p.length ≤ 1000000) :
    Calls Tryd.prog 30 #[.slice a N c] w (Refgotpak w (refreadpakL p)) := by
  obtain ⟨g0, hg0⟩ : ∃ g, w.heap.size = g := ⟨_, rfl⟩
  have hb1 := below_alloc w (.cells [.int .u8 0, .int .u32 0, .int .u32 0, .int .u32 0, .int .u32 0, .bool false, .slice none 0 0].toArray 27)
  have Z0 := hid (show Blk (w.alloc (.cells [.int .u8 0, .int .u32 0, .int .u32 0, .int .u32 0, .int .u32 0, .bool false, .slice none 0 0].toArray 27)) g0 [.int .u8 0, .int .u32 0, .int .u32 0, .int .u32 0, .int .u32 0, .bool false, .slice none 0 0] 27 from by have := blk_alloc w [.int .u8 0, .int .u32 0, .int .u32 0, .int .u32 0, .int .u32 0, .bool false, .slice none 0 0] 27; rw [hg0] at this; exact this)
  have BW := hid hb1
  have HP := hid (h.below hb1)
  have HN := hid hN
  have GZ := hid (show w.heap.size ≤ g0 from by omega)
  have hC := row_calls a c N 7 true p (w.alloc (.cells [.int .u8 0, .int .u32 0, .int .u32 0, .int .u32 0, .int .u32 0, .bool false, .slice none 0 0].toArray 27)) (h.below hb1) hN hl (by decide)
  obtain ⟨res, hres⟩ : ∃ res, refreadpakL p = res := ⟨_, rfl⟩
  rw [hres]
  unfold refreadpakL at hres
  have hlen := rowL_len (p := p) (n := 7) (tx := true)
  have hok : ∀ l b, rowL p 7 true = (l, b, 0) → l.length = 7 ∧ Small l := fun l b h => ⟨(rowL_ok h).1, (rowL_ok h).2.1⟩
  generalize rowL p 7 true = r at hC hres hlen hok
  obtain ⟨l, b, cd⟩ := r
  dsimp only at hres hlen
  have HC := hid hC
  have HR := hid hres
  have HK := hid hok
  clear hC hres hok hb1 h hN
  have hl1 : p.length ≤ 1000000 := hl
  go_enter Tryd.func30, Tryd.ntmps30
  go_wp2_with fail
  generalize (w.alloc (.cells [.int .u8 0, .int .u32 0, .int .u32 0, .int .u32 0, .int .u32 0, .bool false, .slice none 0 0].toArray 27)) = w1 at Z0 BW HP HC ⊢
  clear hg0
  refine HC.out.mono ?_
  rintro e w2 ⟨lv, a2, c2, rfl, ho, hs, hna, hb⟩
  obtain ⟨al, nl, cl, rfl, hnl, hcl, hcs⟩ := RO.cs ho
  dsimp only at hs hnl hcs
  have NG := hid (show ∀ x, a2 = some x → x.block ≠ g0 from fun x hx => by have := (hna x hx).1; have := Z0.out.lt; omega)
  replace Z0 := hid (Z0.out.below hb)
  replace HP := hid (HP.out.below hb)
  replace BW := hid (BW.out.trans (hb.mono BW.out.size))
  have HS := hid hs
  clear hna
  have HL := hid hcs
  obtain ⟨nb, hnb⟩ : ∃ nb, b.length = nb := ⟨_, rfl⟩
  rw [hnb] at hlen ⊢
  have HB := hid hnb
  clear ho hb hs hcs HC hnb
  dsimp only
  by_cases h0 : cd = 0
  case' neg =>
    have hq0 : (cd == 0) = false := by simpa using h0
    have hr := HR.out
    rw [if_pos h0] at hr
    clear HR HK h0 HL hnl hcl
    go_upto_region 3 with fail
    repeat (first | (refine wpList_store_blk (o := ⟨none, _, 0, _, _, _⟩) 27 (.tmp 2) (.tmp 18) rfl rfl g0 [.int .u8 0, .int .u32 0, .int .u32 0, .int .u32 0, .int .u32 0, .bool false, .slice none 0 0] [.int .u8 0, .int .u32 0, .int .u32 0, .int .u32 0, .int .u32 0, .bool false, .slice none 0 0] 27 rfl rfl Z0.out rfl (by kernel_rfl) (by simp [Value.oneCell']) ?_; intro wE hZ hE) | go_step)
    refine bodyPost_ret (v := .tuple #[.agg [.int .u8 0, .int .u32 0, .int .u32 0, .int .u32 0, .int .u32 0, .bool false, .slice none 0 0].toArray, .int .i64 cd]) (results_blk2 (fn := Tryd.f30) (p := 2) (q := 3) (ty := 27) rfl _ g0 [.int .u8 0, .int .u32 0, .int .u32 0, .int .u32 0, .int .u32 0, .bool false, .slice none 0 0] 27 (.int .i64 cd) rfl rfl hZ ⟨_, Tryd.underlying27, rfl⟩ (by kernel_rfl)) rfl ?_
    rw [← hr]
    exact ⟨none, 0, rfl, BS.nil _, BW.out.trans (hE.below (B := w.heap.size) BW.out.size (by have := GZ.out; simp; omega))⟩
  subst h0
  have hr := HR.out
  rw [if_neg (show ¬ ((0 : Int) ≠ 0) from by simp)] at hr
  obtain ⟨hll, hsm⟩ := HK.out l b rfl
  clear HR HK
  have hdok := docP_ok l b hsm
  obtain ⟨x0, x1, x2, x3, x4, x5, x6, rfl⟩ := list7 hll
  have s1 : ∀ x ∈ [x0, x1, x2, x3, x4, x5, x6], x < 18446744073709551616 := hsm
  simp only [List.mem_cons, List.not_mem_nil, or_false, forall_eq_or_imp, forall_eq] at s1
  obtain ⟨q0, q1, q2, q3, q4, q5, q6⟩ := s1
  simp only [List.length_cons, List.length_nil] at hnl
  subst hnl
  obtain ⟨bL, oL, rfl, hcell⟩ := HL.out.at (by simp [urV])
  clear hll hsm HL
  obtain ⟨n, hn⟩ : ∃ n, docP [x0, x1, x2, x3, x4, x5, x6] b = n := ⟨_, rfl⟩
  rw [hn] at hr hdok
  have HR := hid hr
  have HO := hid hdok
  clear hr hdok
  have HV := hid (show (pakV n (.slice a2 nb c2)) = [.int .u8 ((x1 : Int) % 256), .int .u32 ((x2 : Int) % 4294967296), .int .u32 ((x3 : Int) % 4294967296), .int .u32 ((x4 : Int) % 4294967296), .int .u32 ((x5 : Int) % 4294967296), .bool ((x6 : Int) == 1), .slice a2 nb c2] from by rw [← hn]; rfl)
  have HT := hid (show n.data = b from by rw [← hn]; rfl)
  clear hn
  have d1 := hcell 1 (.int .u64 (x1 : Int)) rfl
  have d2 := hcell 2 (.int .u64 (x2 : Int)) rfl
  have d3 := hcell 3 (.int .u64 (x3 : Int)) rfl
  have d4 := hcell 4 (.int .u64 (x4 : Int)) rfl
  have d5 := hcell 5 (.int .u64 (x5 : Int)) rfl
  have d6 := hcell 6 (.int .u64 (x6 : Int)) rfl
  clear hcell
  go_upto_region 4 with fail
  refine wp_region_st 32 0 [.r 0 0, .r 0 0, .r 0 0, .r 0 0, .r 0 0, .r 0 0, .r 0 0, .r 0 0, .r 0 0, .r 0 0, .r 0 0, .r 0 0, .r 0 0, .r 0 0, .r 0 0, .r 0 0, .r 0 0, .r 0 0, .r 0 0, .r 0 0, .r 0 0, .r 0 0, .r 0 0, .r 0 0, .r 0 0, .r 0 0, .r 0 0] (fun _ w' => Below w2.heap.size w2 w') (fun _ _ => False) (fun idx v w' => match idx with
    | 0 => v = .slice (some ⟨bL, oL, none⟩) 7 cl
    | 1 => v = .pointer (some ⟨bL, oL + 1, none⟩)
    | 2 => v = .int .u64 (x1 : Int)
    | 3 => v = .int .u8 ((x1 : Int) % 256)
    | 4 => v = .slice (some ⟨bL, oL, none⟩) 7 cl
    | 5 => v = .pointer (some ⟨bL, oL + 2, none⟩)
    | 6 => v = .int .u64 (x2 : Int)
    | 7 => v = .int .u32 ((x2 : Int) % 4294967296)
    | 8 => v = .slice (some ⟨bL, oL, none⟩) 7 cl
    | 9 => v = .pointer (some ⟨bL, oL + 3, none⟩)
    | 10 => v = .int .u64 (x3 : Int)
    | 11 => v = .int .u32 ((x3 : Int) % 4294967296)
    | 12 => v = .slice (some ⟨bL, oL, none⟩) 7 cl
    | 13 => v = .pointer (some ⟨bL, oL + 4, none⟩)
    | 14 => v = .int .u64 (x4 : Int)
    | 15 => v = .int .u32 ((x4 : Int) % 4294967296)
    | 16 => v = .slice (some ⟨bL, oL, none⟩) 7 cl
    | 17 => v = .pointer (some ⟨bL, oL + 5, none⟩)
    | 18 => v = .int .u64 (x5 : Int)
    | 19 => v = .int .u32 ((x5 : Int) % 4294967296)
    | 20 => v = .slice (some ⟨bL, oL, none⟩) 7 cl
    | 21 => v = .pointer (some ⟨bL, oL + 6, none⟩)
    | 22 => v = .int .u64 (x6 : Int)
    | 23 => v = .bool ((x6 : Int) == 1)
    | 24 => v = .slice a2 nb c2
    | 25 => v = .agg [.int .u8 ((x1 : Int) % 256), .int .u32 ((x2 : Int) % 4294967296), .int .u32 ((x3 : Int) % 4294967296), .int .u32 ((x4 : Int) % 4294967296), .int .u32 ((x5 : Int) % 4294967296), .bool ((x6 : Int) == 1), .slice a2 nb c2].toArray
    | 26 => ∃ g, v = .pointer (some ⟨g, 0, none⟩) ∧ Blk w' g [.int .u8 0, .int .u32 0, .int .u32 0, .int .u32 0, .int .u32 0, .bool false, .slice none 0 0] 27 ∧ w2.heap.size ≤ g
    | _ => True) (by kernel_rfl) (by kernel_rfl) (by kernel_rfl) (by kernel_rfl) ?_ ?_ ?_ ?_ ?_ ?_
  · intro j v wx wy hR hb
    match j, hR with
    | 0, hR | 1, hR | 2, hR | 3, hR | 4, hR | 5, hR | 6, hR | 7, hR | 8, hR | 9, hR | 10, hR | 11, hR | 12, hR | 13, hR | 14, hR | 15, hR | 16, hR | 17, hR | 18, hR | 19, hR | 20, hR | 21, hR | 22, hR | 23, hR | 24, hR | 25, hR => exact hR
    | 26, hR => exact (by obtain ⟨g, e, h1, h2⟩ := hR; exact ⟨g, e, h1.below hb, h2⟩)
    | _ + 27, _ => trivial
  · intro j v wx wy hR hF; exact hF.elim
  · intro ph wx wy hS hb; exact hS.trans (hb.mono hS.size)
  · exact below_drew w2
  · refine ⟨?_, ?_, ?_, ?_, ?_, ?_, ?_, ?_, ?_, ?_, ?_, ?_, ?_, ?_, ?_, ?_, ?_, ?_, ?_, ?_, ?_, ?_, ?_, ?_, ?_, ?_, ?_, trivial⟩
    all_goals intro ρ wx hc hg hf
    all_goals intro ph _ _ hS
    all_goals replace hS : Below w2.heap.size w2 wx := hS
    · intro (h0 : ρ (.tmp 4) = .slice (some ⟨bL, oL, none⟩) 7 cl)
      exact opOk_move _ rfl ⟨Below.refl _ _, h0⟩
    · intro (h0 : ρ (.tmp 20) = .slice (some ⟨bL, oL, none⟩) 7 cl)
      exact opOk_run (v := .pointer (some ⟨bL, oL + 1, none⟩)) (w' := wx) (by go_simp) ⟨Below.refl _ _, rfl⟩
    · intro (h0 : ρ (.tmp 21) = .pointer (some ⟨bL, oL + 1, none⟩))
      exact opOk_load _ _ rfl _ _ h0 (run_u64_at _ _ _ _ (cell_later hS d1)) ⟨Below.refl _ _, rfl⟩
    · intro (h0 : ρ (.tmp 22) = .int .u64 (x1 : Int))
      exact opOk_convI _ _ (.tmp 22) rfl .u64 .u8 _ _ h0 (by kernel_rfl) (by kernel_rfl) (wrap_u8 _) ⟨Below.refl _ _, rfl⟩
    · intro (h0 : ρ (.tmp 4) = .slice (some ⟨bL, oL, none⟩) 7 cl)
      exact opOk_move _ rfl ⟨Below.refl _ _, h0⟩
    · intro (h0 : ρ (.tmp 24) = .slice (some ⟨bL, oL, none⟩) 7 cl)
      exact opOk_run (v := .pointer (some ⟨bL, oL + 2, none⟩)) (w' := wx) (by go_simp) ⟨Below.refl _ _, rfl⟩
    · intro (h0 : ρ (.tmp 25) = .pointer (some ⟨bL, oL + 2, none⟩))
      exact opOk_load _ _ rfl _ _ h0 (run_u64_at _ _ _ _ (cell_later hS d2)) ⟨Below.refl _ _, rfl⟩
    · intro (h0 : ρ (.tmp 26) = .int .u64 (x2 : Int))
      exact opOk_convI _ _ (.tmp 26) rfl .u64 .u32 _ _ h0 (by kernel_rfl) (by kernel_rfl) (wrap_u32 _) ⟨Below.refl _ _, rfl⟩
    · intro (h0 : ρ (.tmp 4) = .slice (some ⟨bL, oL, none⟩) 7 cl)
      exact opOk_move _ rfl ⟨Below.refl _ _, h0⟩
    · intro (h0 : ρ (.tmp 28) = .slice (some ⟨bL, oL, none⟩) 7 cl)
      exact opOk_run (v := .pointer (some ⟨bL, oL + 3, none⟩)) (w' := wx) (by go_simp) ⟨Below.refl _ _, rfl⟩
    · intro (h0 : ρ (.tmp 29) = .pointer (some ⟨bL, oL + 3, none⟩))
      exact opOk_load _ _ rfl _ _ h0 (run_u64_at _ _ _ _ (cell_later hS d3)) ⟨Below.refl _ _, rfl⟩
    · intro (h0 : ρ (.tmp 30) = .int .u64 (x3 : Int))
      exact opOk_convI _ _ (.tmp 30) rfl .u64 .u32 _ _ h0 (by kernel_rfl) (by kernel_rfl) (wrap_u32 _) ⟨Below.refl _ _, rfl⟩
    · intro (h0 : ρ (.tmp 4) = .slice (some ⟨bL, oL, none⟩) 7 cl)
      exact opOk_move _ rfl ⟨Below.refl _ _, h0⟩
    · intro (h0 : ρ (.tmp 32) = .slice (some ⟨bL, oL, none⟩) 7 cl)
      exact opOk_run (v := .pointer (some ⟨bL, oL + 4, none⟩)) (w' := wx) (by go_simp) ⟨Below.refl _ _, rfl⟩
    · intro (h0 : ρ (.tmp 33) = .pointer (some ⟨bL, oL + 4, none⟩))
      exact opOk_load _ _ rfl _ _ h0 (run_u64_at _ _ _ _ (cell_later hS d4)) ⟨Below.refl _ _, rfl⟩
    · intro (h0 : ρ (.tmp 34) = .int .u64 (x4 : Int))
      exact opOk_convI _ _ (.tmp 34) rfl .u64 .u32 _ _ h0 (by kernel_rfl) (by kernel_rfl) (wrap_u32 _) ⟨Below.refl _ _, rfl⟩
    · intro (h0 : ρ (.tmp 4) = .slice (some ⟨bL, oL, none⟩) 7 cl)
      exact opOk_move _ rfl ⟨Below.refl _ _, h0⟩
    · intro (h0 : ρ (.tmp 36) = .slice (some ⟨bL, oL, none⟩) 7 cl)
      exact opOk_run (v := .pointer (some ⟨bL, oL + 5, none⟩)) (w' := wx) (by go_simp) ⟨Below.refl _ _, rfl⟩
    · intro (h0 : ρ (.tmp 37) = .pointer (some ⟨bL, oL + 5, none⟩))
      exact opOk_load _ _ rfl _ _ h0 (run_u64_at _ _ _ _ (cell_later hS d5)) ⟨Below.refl _ _, rfl⟩
    · intro (h0 : ρ (.tmp 38) = .int .u64 (x5 : Int))
      exact opOk_convI _ _ (.tmp 38) rfl .u64 .u32 _ _ h0 (by kernel_rfl) (by kernel_rfl) (wrap_u32 _) ⟨Below.refl _ _, rfl⟩
    · intro (h0 : ρ (.tmp 4) = .slice (some ⟨bL, oL, none⟩) 7 cl)
      exact opOk_move _ rfl ⟨Below.refl _ _, h0⟩
    · intro (h0 : ρ (.tmp 40) = .slice (some ⟨bL, oL, none⟩) 7 cl)
      exact opOk_run (v := .pointer (some ⟨bL, oL + 6, none⟩)) (w' := wx) (by go_simp) ⟨Below.refl _ _, rfl⟩
    · intro (h0 : ρ (.tmp 41) = .pointer (some ⟨bL, oL + 6, none⟩))
      exact opOk_load _ _ rfl _ _ h0 (run_u64_at _ _ _ _ (cell_later hS d6)) ⟨Below.refl _ _, rfl⟩
    · intro (h0 : ρ (.tmp 42) = .int .u64 (x6 : Int))
      exact opOk_run (v := .bool ((x6 : Int) == 1)) (w' := wx) (by go_simp) ⟨Below.refl _ _, rfl⟩
    · intro (h0 : ρ (.tmp 5) = .slice a2 nb c2)
      exact opOk_move _ rfl ⟨Below.refl _ _, h0⟩
    · intro (h0 : ρ (.tmp 23) = .int .u8 ((x1 : Int) % 256)) (h1 : ρ (.tmp 27) = .int .u32 ((x2 : Int) % 4294967296)) (h2 : ρ (.tmp 31) = .int .u32 ((x3 : Int) % 4294967296)) (h3 : ρ (.tmp 35) = .int .u32 ((x4 : Int) % 4294967296)) (h4 : ρ (.tmp 39) = .int .u32 ((x5 : Int) % 4294967296)) (h5 : ρ (.tmp 43) = .bool ((x6 : Int) == 1)) (hb : ρ (.tmp 44) = .slice a2 nb c2)
      exact opOk_run (v := .agg [.int .u8 ((x1 : Int) % 256), .int .u32 ((x2 : Int) % 4294967296), .int .u32 ((x3 : Int) % 4294967296), .int .u32 ((x4 : Int) % 4294967296), .int .u32 ((x5 : Int) % 4294967296), .bool ((x6 : Int) == 1), .slice a2 nb c2].toArray) (w' := wx) (by go_simp) ⟨Below.refl _ _, rfl⟩
    · refine GuF.plain rfl (InF.nil rfl ?_)
      refine opOk_run (v := .pointer (some ⟨wx.heap.size, 0, none⟩)) (w' := wx.alloc (.cells [.int .u8 0, .int .u32 0, .int .u32 0, .int .u32 0, .int .u32 0, .bool false, .slice none 0 0].toArray 27)) ?_ ?_
      · go_simp
      · exact ⟨below_alloc _ _, wx.heap.size, rfl, blk_alloc wx [.int .u8 0, .int .u32 0, .int .u32 0, .int .u32 0, .int .u32 0, .bool false, .slice none 0 0] 27, hS.size⟩
  · intro wz hS
    rintro _ rfl _ rfl _ rfl _ rfl _ rfl _ rfl _ rfl _ rfl _ rfl _ rfl _ rfl _ rfl _ rfl _ rfl _ rfl _ rfl _ rfl _ rfl _ rfl _ rfl _ rfl _ rfl _ rfl _ rfl _ rfl _ rfl
    simp only [Act.put, List.setIfInBounds_toArray, List.set_cons_succ, List.set_cons_zero]
    refine PutLast.lastNew [.int .u8 0, .int .u32 0, .int .u32 0, .int .u32 0, .int .u32 0, .bool false, .slice none 0 0] 27 w2.heap.size ?_ (fun v h => h)
    refine fun g7 hM hg7 => ?_
    simp only [Act.put, List.setIfInBounds_toArray, List.set_cons_succ, List.set_cons_zero]
    replace hS : Below w2.heap.size w2 wz := hS
    refine opOk_store_row 27 (.tmp 7) (.tmp 45) rfl g7 0 [.int .u8 ((x1 : Int) % 256), .int .u32 ((x2 : Int) % 4294967296), .int .u32 ((x3 : Int) % 4294967296), .int .u32 ((x4 : Int) % 4294967296), .int .u32 ((x5 : Int) % 4294967296), .bool ((x6 : Int) == 1), .slice a2 nb c2] [.int .u8 0, .int .u32 0, .int .u32 0, .int .u32 0, .int .u32 0, .bool false, .slice none 0 0] 27 rfl rfl hM (by simp only [List.length_cons, List.length_nil]; omega) (by kernel_rfl) (by intro u hu; simp only [List.mem_cons, List.not_mem_nil, or_false] at hu; rcases hu with rfl | rfl | rfl | rfl | rfl | rfl | rfl <;> rfl) ?_
    intro hM2 hC2
    generalize wz.setCells g7 0 [.int .u8 ((x1 : Int) % 256), .int .u32 ((x2 : Int) % 4294967296), .int .u32 ((x3 : Int) % 4294967296), .int .u32 ((x4 : Int) % 4294967296), .int .u32 ((x5 : Int) % 4294967296), .bool ((x6 : Int) == 1), .slice a2 nb c2] = w3 at hM2 hC2 ⊢
    have M := hid (show Blk w3 g7 (pakV n (.slice a2 nb c2)) 27 from by rw [HV.out]; exact hM2)
    have hB := hS.trans (hC2.below (B := w2.heap.size) hS.size (by simp; omega))
    clear hC2 hM2 hS hM d1 d2 d3 d4 d5 d6
    replace Z0 := hid (Z0.out.below hB)
    replace HP := hid (HP.out.below hB)
    replace HS := hid (HS.out.below hB)
    replace BW := hid (BW.out.trans (hB.mono BW.out.size))
    clear hB hg7
    repeat (first | (refine wpList_load_blk (o := ⟨some 47, _, _, _, _, _⟩) 27 (.tmp 7) rfl rfl g7 (pakV n (.slice a2 nb c2)) 27 rfl M.out ⟨_, Tryd.underlying27, rfl⟩ (by kernel_rfl) ?_) | go_step)
    obtain ⟨y0, hy0⟩ : ∃ y, (pakL n).1 = y := ⟨_, rfl⟩
    obtain ⟨e0, he0⟩ : ∃ y, (pakL n).2 = y := ⟨_, rfl⟩
    have HY := hid hy0
    have HE := hid he0
    have hr := HR.out
    rw [hy0, he0] at hr
    replace HR := hid hr
    clear hy0 he0 hr
    have hC := refpak_calls n a2 c2 w3 HO.out (by rw [HT.out]; exact HS.out) (by rw [HT.out, HB.out]; omega)
    rw [HT.out, HB.out] at hC
    rw [HY.out, HE.out] at hC
    refine hC.mono ?_
    rintro e w7 ⟨v, rfl, ho, hb⟩
    obtain ⟨p1, n1, r1, rfl, hn, hs, _⟩ := ob_n ho
    have P1 := hid hs
    have N1 := hid hn
    replace Z0 := hid (Z0.out.below hb)
    replace HP := hid (HP.out.below hb)
    replace HS := hid (HS.out.below hb)
    replace M := hid (M.out.below hb)
    replace BW := hid (BW.out.trans (hb.mono BW.out.size))
    clear ho hs hn hb hC
    dsimp only
    have hbad : ∀ (X : World), Below w.heap.size w X → res = (pakZ, 4) → Refgotpak w res (.returned (.tuple #[.agg [.int .u8 0, .int .u32 0, .int .u32 0, .int .u32 0, .int .u32 0, .bool false, .slice none 0 0].toArray, .int .i64 4])) X := by
      intro X hX hr
      rw [hr]
      exact ⟨none, 0, rfl, BS.nil _, hX⟩
    have HBad := hid hbad
    have hgood : ∀ (X : World), Below w.heap.size w X → BS X a2 c2 b → res = (n, 0) → Refgotpak w res (.returned (.tuple #[.agg (pakV n (.slice a2 nb c2)).toArray, .int .i64 0])) X := by
      intro X hX hs hr
      rw [hr]
      exact ⟨a2, c2, by dsimp only; rw [HT.out, HB.out], by dsimp only; rw [HT.out]; exact hs, hX⟩
    have HGood := hid hgood
    clear hbad hgood
    rcases pakL_code n with ⟨f, z⟩ | ⟨f, z⟩
    case' inr =>
      obtain rfl : e0 = 4 := by rw [← HE.out, z]
      have hr := HR.out
      rw [if_neg (by simp)] at hr
      replace HR := hid hr
      clear f z hr
      go_upto_region 7 with fail
      repeat (first | (refine wpList_store_blk (o := ⟨none, _, 0, _, _, _⟩) 27 (.tmp 2) (.tmp 59) rfl rfl g0 [.int .u8 0, .int .u32 0, .int .u32 0, .int .u32 0, .int .u32 0, .bool false, .slice none 0 0] [.int .u8 0, .int .u32 0, .int .u32 0, .int .u32 0, .int .u32 0, .bool false, .slice none 0 0] 27 rfl rfl Z0.out rfl (by kernel_rfl) (by simp [Value.oneCell']) ?_; intro wE hZ hE) | go_step)
      refine bodyPost_ret (v := .tuple #[.agg [.int .u8 0, .int .u32 0, .int .u32 0, .int .u32 0, .int .u32 0, .bool false, .slice none 0 0].toArray, .int .i64 4]) (results_blk2 (fn := Tryd.f30) (p := 2) (q := 3) (ty := 27) rfl _ g0 [.int .u8 0, .int .u32 0, .int .u32 0, .int .u32 0, .int .u32 0, .bool false, .slice none 0 0] 27 (.int .i64 4) rfl rfl hZ ⟨_, Tryd.underlying27, rfl⟩ (by kernel_rfl)) rfl ?_
      exact HBad.out _ (BW.out.trans (hE.below (B := w.heap.size) BW.out.size (by have := GZ.out; simp; omega))) HR.out.symm
    obtain rfl : e0 = 0 := by rw [← HE.out, z]
    clear f z
    go_upto_region 6 with fail
    go_wp2_with fail
    refine (same_n _ _ _ _ _ _ _ _ _ HP.out P1.out HN.out N1.out).mono ?_
    rintro e w' ⟨rfl, rfl⟩
    dsimp only
    obtain ⟨sb, hsb⟩ : ∃ b, (p == y0) = b := ⟨_, rfl⟩
    rw [hsb]
    cases sb
    case' false =>
      have hne : p ≠ y0 := by simpa using hsb
      have hr := HR.out
      rw [if_neg (by simp [hne])] at hr
      replace HR := hid hr
      clear hne hsb hr
      go_upto_region 7 with fail
      repeat (first | (refine wpList_store_blk (o := ⟨none, _, 0, _, _, _⟩) 27 (.tmp 2) (.tmp 59) rfl rfl g0 [.int .u8 0, .int .u32 0, .int .u32 0, .int .u32 0, .int .u32 0, .bool false, .slice none 0 0] [.int .u8 0, .int .u32 0, .int .u32 0, .int .u32 0, .int .u32 0, .bool false, .slice none 0 0] 27 rfl rfl Z0.out rfl (by kernel_rfl) (by simp [Value.oneCell']) ?_; intro wE hZ hE) | go_step)
      refine bodyPost_ret (v := .tuple #[.agg [.int .u8 0, .int .u32 0, .int .u32 0, .int .u32 0, .int .u32 0, .bool false, .slice none 0 0].toArray, .int .i64 4]) (results_blk2 (fn := Tryd.f30) (p := 2) (q := 3) (ty := 27) rfl _ g0 [.int .u8 0, .int .u32 0, .int .u32 0, .int .u32 0, .int .u32 0, .bool false, .slice none 0 0] 27 (.int .i64 4) rfl rfl hZ ⟨_, Tryd.underlying27, rfl⟩ (by kernel_rfl)) rfl ?_
      exact HBad.out _ (BW.out.trans (hE.below (B := w.heap.size) BW.out.size (by have := GZ.out; simp; omega))) HR.out.symm
    have heq : p = y0 := by simpa using hsb
    have hr := HR.out
    simp only [heq, true_and, and_self, if_true] at hr
    replace HR := hid hr
    clear heq hsb hr
    go_upto_region 8 with fail
    repeat (first | (refine wpList_load_blk (o := ⟨some 60, _, _, _, _, _⟩) 27 (.tmp 7) rfl rfl g7 (pakV n (.slice a2 nb c2)) 27 rfl M.out ⟨_, Tryd.underlying27, rfl⟩ (by kernel_rfl) ?_) | (refine wpList_store_blk (o := ⟨none, _, 0, _, _, _⟩) 27 (.tmp 2) (.tmp 60) rfl rfl g0 [.int .u8 0, .int .u32 0, .int .u32 0, .int .u32 0, .int .u32 0, .bool false, .slice none 0 0] (pakV n (.slice a2 nb c2)) 27 rfl rfl Z0.out rfl (by kernel_rfl) (by intro u hu; rw [HV.out] at hu; simp only [List.mem_cons, List.not_mem_nil, or_false] at hu; rcases hu with rfl | rfl | rfl | rfl | rfl | rfl | rfl <;> rfl) ?_; intro wE hZ hE) | go_step)
    refine bodyPost_ret (v := .tuple #[.agg (pakV n (.slice a2 nb c2)).toArray, .int .i64 0]) (results_blk2 (fn := Tryd.f30) (p := 2) (q := 3) (ty := 27) rfl _ g0 (pakV n (.slice a2 nb c2)) 27 (.int .i64 0) rfl rfl hZ ⟨_, Tryd.underlying27, rfl⟩ (by kernel_rfl)) rfl ?_
    exact HGood.out _ (BW.out.trans (hE.below (B := w.heap.size) BW.out.size (by have := GZ.out; simp; omega))) (CS.chg HS.out hE (by intro x hx; have := NG.out x hx; simpa using this)) HR.out.symm
end Go.Proofs.YtmmcmldcbdaooaaDoor
