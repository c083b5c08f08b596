/- The walks of layer 16: the document's Copy and Plain; asked: that the table is whole. (Several texts in one: JobRC, JobRP, JobAl, JobPl.) -/
import Derived.Test.YtombndhjoaaaiaaDoorJobDoG
import Derived.Test.YtombndhjoaaaiaaDoorArr
import Derived.Test.YtombndhjoaaaiaaDoorJobRdG
import Derived.Deep.RegionHeldLaw
import Derived.Test.YtombndhjoaaaiaaDoorJobL
import Derived.Test.YtombndhjoaaaiaaDoorJobQ

/- The walks of layer 16: the document's Copy and Plain; asked: that the table is whole. -/
namespace Go.Proofs.YtombndhjoaaaiaaDoor
open Go.RowKit Go.Quad _root_.Quad _root_.Quad.Ink

def RCopyTo (w : World) (t : TbD) (e : Ending) (w' : World) : Prop := ∃ X av ov, e = .returned (.pointer (some ⟨X, 0, none⟩)) ∧ Blk w' X (xV t av ov) 100 ∧ w.heap.size ≤ X ∧ RO jobV 6 w' w.heap.size 37 av t.active ∧ RO jobV 6 w' w.heap.size 37 ov t.over ∧ Below w.heap.size w w'
theorem xV_len {t : TbD} (ht : t.Ok) (av ov : Value) : (xV t av ov).length = 52 := by
  unfold xV
  rw [List.length_append, flat_length repV 6 (fun _ => rfl), ht.last]
  rfl

theorem opOk_build {P : Program} {o : Oper} {ρ : Operand → Value} {w : World} {K : Value → World → Prop} (t : TypeId) (parts : Array (Nat × Operand)) (ho : o.op = .build t parts) (cells : Array Value) (h : P.built t (parts.map fun (i, x) => (i, ρ x)).toList = some cells) (hk : K (.agg cells) w) : OpOk P o ρ w K := by
  refine opOk_run (v := .agg cells) (w' := w) ?_ hk
  simp only [execOp, ho, Sem.run_bind, run_build w t _ cells h, Result.andThen_ok, Sem.run_pure]
theorem eight {l : List RepD} (h : l.length = 8) : ∃ r0 r1 r2 r3 r4 r5 r6 r7, l = [r0, r1, r2, r3, r4, r5, r6, r7] := by
  match l, h with
  | [r0, r1, r2, r3, r4, r5, r6, r7], _ => exact ⟨r0, r1, r2, r3, r4, r5, r6, r7, rfl⟩
set_option maxRecDepth 100000 in
set_option maxHeartbeats 20000000 in
theorem rcopy_calls (w : World) (B X : Nat) (av ov : Value) (t : TbD) (h : IsX w B X av ov t) :
    Calls Tryd.prog 31 #[.pointer (some ⟨X, 0, none⟩)] w (RCopyTo w t) := by
  obtain ⟨aa, na, ca, eav, hna, hnc, hcsa⟩ := h.act.cs
  obtain ⟨ao, no, co, eov, hno, hnco, hcso⟩ := h.over.cs
  subst eav eov hna hno
  have H := hid h
  have HA := hid hcsa
  have HO := hid hcso
  have few := hid h.ok.few
  obtain ⟨r0, r1, r2, r3, r4, r5, r6, r7, hl⟩ := eight h.ok.last
  have HXV := hid fun (a o : Value) => (show xV t a o = [.int .i64 t.nodes, .int .u32 (t.spent : Int), a, o, .int .u8 (r0.client : Int), .int .u32 (r0.seq : Int), .int .i64 r0.e, .int .u32 (r0.job : Int), .int .u8 (r0.state : Int), .int .i64 r0.credit, .int .u8 (r1.client : Int), .int .u32 (r1.seq : Int), .int .i64 r1.e, .int .u32 (r1.job : Int), .int .u8 (r1.state : Int), .int .i64 r1.credit, .int .u8 (r2.client : Int), .int .u32 (r2.seq : Int), .int .i64 r2.e, .int .u32 (r2.job : Int), .int .u8 (r2.state : Int), .int .i64 r2.credit, .int .u8 (r3.client : Int), .int .u32 (r3.seq : Int), .int .i64 r3.e, .int .u32 (r3.job : Int), .int .u8 (r3.state : Int), .int .i64 r3.credit, .int .u8 (r4.client : Int), .int .u32 (r4.seq : Int), .int .i64 r4.e, .int .u32 (r4.job : Int), .int .u8 (r4.state : Int), .int .i64 r4.credit, .int .u8 (r5.client : Int), .int .u32 (r5.seq : Int), .int .i64 r5.e, .int .u32 (r5.job : Int), .int .u8 (r5.state : Int), .int .i64 r5.credit, .int .u8 (r6.client : Int), .int .u32 (r6.seq : Int), .int .i64 r6.e, .int .u32 (r6.job : Int), .int .u8 (r6.state : Int), .int .i64 r6.credit, .int .u8 (r7.client : Int), .int .u32 (r7.seq : Int), .int .i64 r7.e, .int .u32 (r7.job : Int), .int .u8 (r7.state : Int), .int .i64 r7.credit] from by unfold xV; rw [hl]; rfl)
  clear h hcsa hcso hl
  go_enter Tryd.func31, Tryd.ntmps31
  go_upto_region 3 with fail
  refine wp_region_below (fun idx v w' => match idx with
    | 0 | 1 | 4 | 5 | 9 | 10 | 15 | 16 | 20 | 21 => v = .pointer (some ⟨X, 0, none⟩)
    | 2 => v = .pointer (some ⟨X, 0, none⟩)
    | 3 => v = .int .i64 t.nodes
    | 6 => v = .pointer (some ⟨X, 1, none⟩)
    | 7 => v = .int .u32 (t.spent : Int)
    | 8 | 14 => ∃ b, v = .slice (some ⟨b, 0, none⟩) 0 0 ∧ Blk w' b [] 37 ∧ w.heap.size ≤ b
    | 11 => v = .pointer (some ⟨X, 2, none⟩)
    | 12 => v = .slice aa t.active.length ca
    | 13 => RO jobV 6 w' w.heap.size 37 v t.active
    | 17 => v = .pointer (some ⟨X, 3, none⟩)
    | 18 => v = .slice ao t.over.length co
    | 19 => RO jobV 6 w' w.heap.size 37 v t.over
    | 22 => v = .pointer (some ⟨X, 4, none⟩)
    | 23 => v = .agg #[.int .u8 (r0.client : Int), .int .u32 (r0.seq : Int), .int .i64 r0.e, .int .u32 (r0.job : Int), .int .u8 (r0.state : Int), .int .i64 r0.credit, .int .u8 (r1.client : Int), .int .u32 (r1.seq : Int), .int .i64 r1.e, .int .u32 (r1.job : Int), .int .u8 (r1.state : Int), .int .i64 r1.credit, .int .u8 (r2.client : Int), .int .u32 (r2.seq : Int), .int .i64 r2.e, .int .u32 (r2.job : Int), .int .u8 (r2.state : Int), .int .i64 r2.credit, .int .u8 (r3.client : Int), .int .u32 (r3.seq : Int), .int .i64 r3.e, .int .u32 (r3.job : Int), .int .u8 (r3.state : Int), .int .i64 r3.credit, .int .u8 (r4.client : Int), .int .u32 (r4.seq : Int), .int .i64 r4.e, .int .u32 (r4.job : Int), .int .u8 (r4.state : Int), .int .i64 r4.credit, .int .u8 (r5.client : Int), .int .u32 (r5.seq : Int), .int .i64 r5.e, .int .u32 (r5.job : Int), .int .u8 (r5.state : Int), .int .i64 r5.credit, .int .u8 (r6.client : Int), .int .u32 (r6.seq : Int), .int .i64 r6.e, .int .u32 (r6.job : Int), .int .u8 (r6.state : Int), .int .i64 r6.credit, .int .u8 (r7.client : Int), .int .u32 (r7.seq : Int), .int .i64 r7.e, .int .u32 (r7.job : Int), .int .u8 (r7.state : Int), .int .i64 r7.credit]
    | 24 => ∃ a o, v = .agg (xV t a o).toArray ∧ RO jobV 6 w' w.heap.size 37 a t.active ∧ RO jobV 6 w' w.heap.size 37 o t.over
    | 25 | 26 => ∃ (b : Nat) (a o : Value), v = .pointer (some ⟨b, 0, none⟩) ∧ Blk w' b (xV t a o) 100 ∧ w.heap.size ≤ b ∧ RO jobV 6 w' w.heap.size 37 a t.active ∧ RO jobV 6 w' w.heap.size 37 o t.over
    | _ => True) (by kernel_rfl) (by kernel_rfl) ?_ ?_ ?_
  · intro j v wx wy hR hb
    match j, hR with
    | 0, hR | 1, hR | 2, hR | 3, hR | 4, hR | 5, hR | 6, hR | 7, hR | 9, hR | 10, hR | 11, hR | 12, hR | 15, hR | 16, hR | 17, hR | 18, hR | 20, hR | 21, hR | 22, hR | 23, hR => exact hR
    | 8, hR => exact (by obtain ⟨b, e, h1, h2⟩ := hR; exact ⟨b, e, h1.below hb, h2⟩)
    | 14, hR => exact (by obtain ⟨b, e, h1, h2⟩ := hR; exact ⟨b, e, h1.below hb, h2⟩)
    | 13, hR => exact RO.below hR hb
    | 19, hR => exact RO.below hR hb
    | 24, hR => exact (by obtain ⟨a, o, e, h1, h2⟩ := hR; exact ⟨a, o, e, h1.below hb, h2.below hb⟩)
    | 25, hR => exact (by obtain ⟨b, a, o, e, h1, h2, h3, h4⟩ := hR; exact ⟨b, a, o, e, h1.below hb, h2, h3.below hb, h4.below hb⟩)
    | 26, hR => exact (by obtain ⟨b, a, o, e, h1, h2, h3, h4⟩ := hR; exact ⟨b, a, o, e, h1.below hb, h2, h3.below hb, h4.below hb⟩)
    | _ + 27, _ => trivial
  · refine ⟨?_, ?_, ?_, ?_, ?_, ?_, ?_, ?_, ?_, ?_, ?_, ?_, ?_, ?_, ?_, ?_, ?_, ?_, ?_, ?_, ?_, ?_, ?_, ?_, ?_, ?_, ?_, trivial⟩
    all_goals intro ρ wx hE hc hg hf
    · intro h0; exact opOk_move _ rfl ⟨Below.refl _ _, h0⟩
    · intro (h0 : ρ (.tmp 5) = .pointer (some ⟨X, 0, none⟩))
      exact opOk_run (v := .pointer (some ⟨X, 0, none⟩)) (w' := wx) (by go_simp) ⟨Below.refl _ _, rfl⟩
    · intro (h0 : ρ (.tmp 6) = .pointer (some ⟨X, 0, none⟩))
      exact opOk_run (v := .pointer (some ⟨X, 0, none⟩)) (w' := wx) (by go_simp) ⟨Below.refl _ _, rfl⟩
    · intro (h0 : ρ (.tmp 7) = .pointer (some ⟨X, 0, none⟩))
      have c := (H.out.own.below hE).get 0 rfl
      exact opOk_load _ _ rfl _ _ h0 (run_int_at _ _ _ _ c) ⟨Below.refl _ _, rfl⟩
    · intro h0; exact opOk_move _ rfl ⟨Below.refl _ _, h0⟩
    · intro (h0 : ρ (.tmp 9) = .pointer (some ⟨X, 0, none⟩))
      exact opOk_run (v := .pointer (some ⟨X, 0, none⟩)) (w' := wx) (by go_simp) ⟨Below.refl _ _, rfl⟩
    · intro (h0 : ρ (.tmp 10) = .pointer (some ⟨X, 0, none⟩))
      exact opOk_run (v := .pointer (some ⟨X, 1, none⟩)) (w' := wx) (by go_simp) ⟨Below.refl _ _, rfl⟩
    · intro (h0 : ρ (.tmp 11) = .pointer (some ⟨X, 1, none⟩))
      have c := (H.out.own.below hE).get 1 rfl
      exact opOk_load _ _ rfl _ _ h0 (run_u32_at _ _ _ _ c) ⟨Below.refl _ _, rfl⟩
    · exact opOk_lit0J rfl fun h => ⟨below_alloc wx _, wx.heap.size, rfl, h, hE.size⟩
    · intro h0; exact opOk_move _ rfl ⟨Below.refl _ _, h0⟩
    · intro (h0 : ρ (.tmp 14) = .pointer (some ⟨X, 0, none⟩))
      exact opOk_run (v := .pointer (some ⟨X, 0, none⟩)) (w' := wx) (by go_simp) ⟨Below.refl _ _, rfl⟩
    · intro (h0 : ρ (.tmp 15) = .pointer (some ⟨X, 0, none⟩))
      exact opOk_run (v := .pointer (some ⟨X, 2, none⟩)) (w' := wx) (by go_simp) ⟨Below.refl _ _, rfl⟩
    · intro (h0 : ρ (.tmp 16) = .pointer (some ⟨X, 2, none⟩))
      have c := (H.out.own.below hE).get 2 rfl
      exact opOk_load _ _ rfl _ _ h0 (run_jobs_at _ _ _ _ c) ⟨Below.refl _ _, rfl⟩
    · intro ⟨b, h0, hB, hb⟩ (h1 : ρ (.tmp 17) = .slice aa t.active.length ca)
      exact opOk_append_lit0J _ _ rfl b h0 hB (l := t.active) (HA.out.below hE) rfl hnc h1 (by have := few.out; omega) w.heap.size hb fun v' w' h2 h3 => ⟨h3, h2⟩
    · exact opOk_lit0J rfl fun h => ⟨below_alloc wx _, wx.heap.size, rfl, h, hE.size⟩
    · intro h0; exact opOk_move _ rfl ⟨Below.refl _ _, h0⟩
    · intro (h0 : ρ (.tmp 20) = .pointer (some ⟨X, 0, none⟩))
      exact opOk_run (v := .pointer (some ⟨X, 0, none⟩)) (w' := wx) (by go_simp) ⟨Below.refl _ _, rfl⟩
    · intro (h0 : ρ (.tmp 21) = .pointer (some ⟨X, 0, none⟩))
      exact opOk_run (v := .pointer (some ⟨X, 3, none⟩)) (w' := wx) (by go_simp) ⟨Below.refl _ _, rfl⟩
    · intro (h0 : ρ (.tmp 22) = .pointer (some ⟨X, 3, none⟩))
      have c := (H.out.own.below hE).get 3 rfl
      exact opOk_load _ _ rfl _ _ h0 (run_jobs_at _ _ _ _ c) ⟨Below.refl _ _, rfl⟩
    · intro ⟨b, h0, hB, hb⟩ (h1 : ρ (.tmp 23) = .slice ao t.over.length co)
      exact opOk_append_lit0J _ _ rfl b h0 hB (l := t.over) (HO.out.below hE) rfl hnco h1 (by have := few.out; omega) w.heap.size hb fun v' w' h2 h3 => ⟨h3, h2⟩
    · intro h0; exact opOk_move _ rfl ⟨Below.refl _ _, h0⟩
    · intro (h0 : ρ (.tmp 25) = .pointer (some ⟨X, 0, none⟩))
      exact opOk_run (v := .pointer (some ⟨X, 0, none⟩)) (w' := wx) (by go_simp) ⟨Below.refl _ _, rfl⟩
    · intro (h0 : ρ (.tmp 26) = .pointer (some ⟨X, 0, none⟩))
      exact opOk_run (v := .pointer (some ⟨X, 4, none⟩)) (w' := wx) (by go_simp) ⟨Below.refl _ _, rfl⟩
    · intro (h0 : ρ (.tmp 27) = .pointer (some ⟨X, 4, none⟩))
      exact opOk_load_row _ _ rfl X 4 ([.int .u8 (r0.client : Int), .int .u32 (r0.seq : Int), .int .i64 r0.e, .int .u32 (r0.job : Int), .int .u8 (r0.state : Int), .int .i64 r0.credit, .int .u8 (r1.client : Int), .int .u32 (r1.seq : Int), .int .i64 r1.e, .int .u32 (r1.job : Int), .int .u8 (r1.state : Int), .int .i64 r1.credit, .int .u8 (r2.client : Int), .int .u32 (r2.seq : Int), .int .i64 r2.e, .int .u32 (r2.job : Int), .int .u8 (r2.state : Int), .int .i64 r2.credit, .int .u8 (r3.client : Int), .int .u32 (r3.seq : Int), .int .i64 r3.e, .int .u32 (r3.job : Int), .int .u8 (r3.state : Int), .int .i64 r3.credit, .int .u8 (r4.client : Int), .int .u32 (r4.seq : Int), .int .i64 r4.e, .int .u32 (r4.job : Int), .int .u8 (r4.state : Int), .int .i64 r4.credit, .int .u8 (r5.client : Int), .int .u32 (r5.seq : Int), .int .i64 r5.e, .int .u32 (r5.job : Int), .int .u8 (r5.state : Int), .int .i64 r5.credit, .int .u8 (r6.client : Int), .int .u32 (r6.seq : Int), .int .i64 r6.e, .int .u32 (r6.job : Int), .int .u8 (r6.state : Int), .int .i64 r6.credit, .int .u8 (r7.client : Int), .int .u32 (r7.seq : Int), .int .i64 r7.e, .int .u32 (r7.job : Int), .int .u8 (r7.state : Int), .int .i64 r7.credit] : List Value) h0 (by have := blk_part (H.out.own.below hE) 4 48; rw [HXV.out] at this; exact this) row_reps (size_reps.trans rfl) ⟨Below.refl _ _, rfl⟩
    · intro (h0 : ρ (.tmp 8) = .int .i64 t.nodes) (h1 : ρ (.tmp 12) = .int .u32 (t.spent : Int)) h2 h3 (h4 : ρ (.tmp 28) = .agg #[.int .u8 (r0.client : Int), .int .u32 (r0.seq : Int), .int .i64 r0.e, .int .u32 (r0.job : Int), .int .u8 (r0.state : Int), .int .i64 r0.credit, .int .u8 (r1.client : Int), .int .u32 (r1.seq : Int), .int .i64 r1.e, .int .u32 (r1.job : Int), .int .u8 (r1.state : Int), .int .i64 r1.credit, .int .u8 (r2.client : Int), .int .u32 (r2.seq : Int), .int .i64 r2.e, .int .u32 (r2.job : Int), .int .u8 (r2.state : Int), .int .i64 r2.credit, .int .u8 (r3.client : Int), .int .u32 (r3.seq : Int), .int .i64 r3.e, .int .u32 (r3.job : Int), .int .u8 (r3.state : Int), .int .i64 r3.credit, .int .u8 (r4.client : Int), .int .u32 (r4.seq : Int), .int .i64 r4.e, .int .u32 (r4.job : Int), .int .u8 (r4.state : Int), .int .i64 r4.credit, .int .u8 (r5.client : Int), .int .u32 (r5.seq : Int), .int .i64 r5.e, .int .u32 (r5.job : Int), .int .u8 (r5.state : Int), .int .i64 r5.credit, .int .u8 (r6.client : Int), .int .u32 (r6.seq : Int), .int .i64 r6.e, .int .u32 (r6.job : Int), .int .u8 (r6.state : Int), .int .i64 r6.credit, .int .u8 (r7.client : Int), .int .u32 (r7.seq : Int), .int .i64 r7.e, .int .u32 (r7.job : Int), .int .u8 (r7.state : Int), .int .i64 r7.credit])
      obtain ⟨a2, c2, e2⟩ := ro_slice h2
      obtain ⟨a3, c3, e3⟩ := ro_slice h3
      obtain ⟨n2, hn2⟩ : ∃ n, t.active.length = n := ⟨_, rfl⟩
      obtain ⟨n3, hn3⟩ : ∃ n, t.over.length = n := ⟨_, rfl⟩
      rw [hn2] at e2
      rw [hn3] at e3
      have hb : Tryd.prog.built 100 (#[(0, (.int .i64 t.nodes : Value)), (1, .int .u32 (t.spent : Int)), (2, .slice a2 n2 c2), (3, .slice a3 n3 c3), (4, .agg #[.int .u8 (r0.client : Int), .int .u32 (r0.seq : Int), .int .i64 r0.e, .int .u32 (r0.job : Int), .int .u8 (r0.state : Int), .int .i64 r0.credit, .int .u8 (r1.client : Int), .int .u32 (r1.seq : Int), .int .i64 r1.e, .int .u32 (r1.job : Int), .int .u8 (r1.state : Int), .int .i64 r1.credit, .int .u8 (r2.client : Int), .int .u32 (r2.seq : Int), .int .i64 r2.e, .int .u32 (r2.job : Int), .int .u8 (r2.state : Int), .int .i64 r2.credit, .int .u8 (r3.client : Int), .int .u32 (r3.seq : Int), .int .i64 r3.e, .int .u32 (r3.job : Int), .int .u8 (r3.state : Int), .int .i64 r3.credit, .int .u8 (r4.client : Int), .int .u32 (r4.seq : Int), .int .i64 r4.e, .int .u32 (r4.job : Int), .int .u8 (r4.state : Int), .int .i64 r4.credit, .int .u8 (r5.client : Int), .int .u32 (r5.seq : Int), .int .i64 r5.e, .int .u32 (r5.job : Int), .int .u8 (r5.state : Int), .int .i64 r5.credit, .int .u8 (r6.client : Int), .int .u32 (r6.seq : Int), .int .i64 r6.e, .int .u32 (r6.job : Int), .int .u8 (r6.state : Int), .int .i64 r6.credit, .int .u8 (r7.client : Int), .int .u32 (r7.seq : Int), .int .i64 r7.e, .int .u32 (r7.job : Int), .int .u8 (r7.state : Int), .int .i64 r7.credit])] : Array (Nat × Value)).toList = some #[.int .i64 t.nodes, .int .u32 (t.spent : Int), .slice a2 n2 c2, .slice a3 n3 c3, .int .u8 (r0.client : Int), .int .u32 (r0.seq : Int), .int .i64 r0.e, .int .u32 (r0.job : Int), .int .u8 (r0.state : Int), .int .i64 r0.credit, .int .u8 (r1.client : Int), .int .u32 (r1.seq : Int), .int .i64 r1.e, .int .u32 (r1.job : Int), .int .u8 (r1.state : Int), .int .i64 r1.credit, .int .u8 (r2.client : Int), .int .u32 (r2.seq : Int), .int .i64 r2.e, .int .u32 (r2.job : Int), .int .u8 (r2.state : Int), .int .i64 r2.credit, .int .u8 (r3.client : Int), .int .u32 (r3.seq : Int), .int .i64 r3.e, .int .u32 (r3.job : Int), .int .u8 (r3.state : Int), .int .i64 r3.credit, .int .u8 (r4.client : Int), .int .u32 (r4.seq : Int), .int .i64 r4.e, .int .u32 (r4.job : Int), .int .u8 (r4.state : Int), .int .i64 r4.credit, .int .u8 (r5.client : Int), .int .u32 (r5.seq : Int), .int .i64 r5.e, .int .u32 (r5.job : Int), .int .u8 (r5.state : Int), .int .i64 r5.credit, .int .u8 (r6.client : Int), .int .u32 (r6.seq : Int), .int .i64 r6.e, .int .u32 (r6.job : Int), .int .u8 (r6.state : Int), .int .i64 r6.credit, .int .u8 (r7.client : Int), .int .u32 (r7.seq : Int), .int .i64 r7.e, .int .u32 (r7.job : Int), .int .u8 (r7.state : Int), .int .i64 r7.credit] := by kernel_rfl
      refine opOk_build 100 _ rfl _ (by simp only [List.map_toArray, List.map_cons, List.map_nil, h0, h1, e2, e3, h4]; exact hb) ⟨Below.refl _ _, .slice a2 n2 c2, .slice a3 n3 c3, by rw [HXV.out]; rfl, by rw [← e2]; exact h2, by rw [← e3]; exact h3⟩
    · intro ⟨a, o, h0, h1, h2⟩
      obtain ⟨a2, c2, e2⟩ := ro_slice h1
      obtain ⟨a3, c3, e3⟩ := ro_slice h2
      refine opOk_run (v := .pointer (some ⟨wx.heap.size, 0, none⟩)) (w' := wx.alloc (.cells (xV t a o).toArray 100)) (by rw [HXV.out] at h0 ⊢; go_simp) ⟨below_alloc wx _, wx.heap.size, a, o, rfl, blk_alloc wx _ _, hE.size, h1.below (below_alloc wx _), h2.below (below_alloc wx _)⟩
    · intro h0; exact opOk_assign _ rfl ⟨Below.refl _ _, h0⟩
  · intro wz hE
    rintro _ rfl _ rfl _ rfl _ rfl _ rfl _ rfl _ rfl _ rfl _ _ _ rfl _ rfl _ rfl _ rfl _ _ _ _ _ rfl _ rfl _ rfl _ rfl _ _ _ rfl _ rfl _ rfl _ rfl _ _ _ _ _ ⟨b9, a9, o9, rfl, h9, hb9, ha9, ho9⟩
    simp only [PutAll, Act.put, List.setIfInBounds_toArray, List.set_cons_succ, List.set_cons_zero]
    go_wp2_with fail
    go_ret
    exact ⟨b9, a9, o9, rfl, h9, hb9, ha9, ho9, hE⟩
end Go.Proofs.YtombndhjoaaaiaaDoor

/- The walks of layer 16: the document's Plain; asked: that the table is whole. -/
namespace Go.Proofs.YtombndhjoaaaiaaDoor
open Go.RowKit Go.Quad _root_.Quad _root_.Quad.Ink

def mixT (t : TbD) (k : Nat) : List JobD := (t.active.take k).map pj0 ++ t.active.drop k
theorem mix_len (t : TbD) (k : Nat) : (mixT t k).length = t.active.length := by
  unfold mixT
  rw [List.length_append, List.length_map, List.length_take, List.length_drop]; omega
theorem mix_at {t : TbD} {k : Nat} (hk : k < t.active.length) : (mixT t k)[k]'(by rw [mix_len]; exact hk) = t.active[k] := by
  unfold mixT
  rw [List.getElem_append_right (by rw [List.length_map, List.length_take]; omega)]
  simp only [List.length_map, List.length_take, List.getElem_drop]
  congr 1; omega
theorem mix_next {t : TbD} {k : Nat} (hk : k < t.active.length) : mixT t (k + 1) = (mixT t k).set k (pj0 t.active[k]) := by
  unfold mixT
  rw [List.take_succ_eq_append_getElem hk, List.map_append, List.drop_eq_getElem_cons hk, List.set_append_right _ _ (by rw [List.length_map, List.length_take]; omega), List.append_assoc]
  congr 1
  rw [List.length_map, List.length_take, show k - min k t.active.length = 0 from by omega, List.set_cons_zero]
  rfl
theorem mix_all (t : TbD) : mixT t t.active.length = (plainT t).active := by
  unfold mixT plainT
  rw [List.take_length, List.drop_length, List.append_nil]
theorem mix_zero (t : TbD) : mixT t 0 = t.active := by unfold mixT; simp
theorem jr_nil_set {w : World} {B : Nat} {v : Value} (h : JR w B v []) (g i : Nat) (u : Value) : JR (w.setCell ⟨g, i, none⟩ u) B v [] := by
  rcases h with ⟨h1, h2⟩ | ⟨b, off, cap, cur, rfl, hB, hb, h1, h2, h3, h4⟩
  · exact .inl ⟨h1, h2⟩
  · by_cases e : b = g
    · subst e
      exact .inr ⟨b, off, cap, cur.set i u, rfl, hB, hb.set i u, h1, h2, by rw [List.length_set]; exact h3, fun k x hx => by simp at hx⟩
    · exact .inr ⟨b, off, cap, cur, rfl, hB, hb.keep (chg_setCell w g i u) (by simpa using e), h1, h2, h3, h4⟩
/-- two rows of jobs made anew do not share a block, unless one has no jobs -/
theorem ro_apart {w : World} {base : Nat} {a o : Value} {l m : List JobD} (h1 : RO jobV 6 w base 37 a l) (h2 : RO jobV 6 w base 37 o m) (hd : ∀ x ∈ l, ∀ y ∈ m, x.id ≠ y.id) (hl : l ≠ []) : ∀ k, a.ownBlock = some k → o.ownBlock = some k → m = [] := by
  intro k hk hk2
  by_cases hm : m = []
  · exact hm
  exfalso
  obtain ⟨_, h1⟩ := h1
  obtain ⟨_, h2⟩ := h2
  rcases h1 with ⟨rfl, _⟩ | ⟨g, cap, cur, rfl, _, hc, _, _, _, ht⟩
  · cases hk
  rcases h2 with ⟨rfl, _⟩ | ⟨g2, cap2, cur2, rfl, _, hc2, _, _, _, ht2⟩
  · cases hk2
  simp [Value.ownBlock] at hk hk2
  subst hk hk2
  rw [hc] at hc2
  simp only [Option.some.injEq, Obj.cells.injEq, and_true] at hc2
  obtain ⟨rfl, _⟩ := hc2
  cases l with
  | nil => exact hl rfl
  | cons x l =>
    cases m with
    | nil => exact hm rfl
    | cons y m =>
      have e1 : cur.toList[0]? = some (.int .u32 (x.id : Int)) := by
        have := congrArg (fun z => z[0]?) ht
        rw [List.flatMap_cons] at this
        simpa [List.getElem?_take, jobV] using this
      have e2 : cur.toList[0]? = some (.int .u32 (y.id : Int)) := by
        have := congrArg (fun z => z[0]?) ht2
        rw [List.flatMap_cons] at this
        simpa [List.getElem?_take, jobV] using this
      rw [e1] at e2
      simp at e2
      exact hd x (List.mem_cons_self ..) y (List.mem_cons_self ..) (by omega)
def RpRel (w : World) (X : Nat) (av ov : Value) (t : TbD) (iv : Value) (W : World) : Prop :=
  ∃ k : Nat, iv = .int .i64 (k : Int) ∧ k ≤ t.active.length ∧ Blk W X (xV t av ov) 100 ∧ JR W w.heap.size av (mixT t k) ∧ JR W w.heap.size ov t.over ∧ Below w.heap.size w W
def RPlainTo (w : World) (t : TbD) (e : Ending) (w' : World) : Prop := ∃ X av ov, e = .returned (.pointer (some ⟨X, 0, none⟩)) ∧ IsX w' w.heap.size X av ov (plainT t) ∧ Below w.heap.size w w'

set_option maxRecDepth 100000 in
set_option maxHeartbeats 20000000 in
theorem rplain_calls (w : World) (B X0 : Nat) (av0 ov0 : Value) (t : TbD) (h : IsX w B X0 av0 ov0 t) (hf : Fit t) :
    Calls Tryd.prog 30 #[.pointer (some ⟨X0, 0, none⟩)] w (RPlainTo w t) := by
  have HC := hid (rcopy_calls w B X0 av0 ov0 t h)
  have HOK := hid h.ok
  have HF := hid hf
  clear h hf
  go_enter Tryd.func30, Tryd.ntmps30
  go_upto_region 2 with (go_at_call 31; go_loud (refine HC.out.mono ?_; rintro e w1 ⟨X, av, ov, rfl, hX, hX2, ha, ho, hb⟩; have X1 := hid hX; have G1 := hid hX2; have A1 := hid ha; have O1 := hid ho; have B1 := hid hb; clear hX hX2 ha ho hb))
  obtain ⟨aa, ca, eav⟩ := ro_slice A1.out
  obtain ⟨ao, co, eov⟩ := ro_slice O1.out
  have AP := hid (ro_apart A1.out O1.out (by
    have := HF.out.one
    rw [List.pairwise_append] at this
    exact this.2.2))
  have few := hid HOK.out.few
  subst eav
  have c2 := X1.out.get 2 rfl
  go_wp2_with fail
  go_loopw [12] (fun iv wr => RpRel w X (.slice aa t.active.length ca) ov t iv wr) (fun iv _ => t.active.length - (intOf iv).toNat)
  case atStart => exact ⟨0, rfl, Nat.zero_le _, X1.out, by rw [mix_zero]; exact RO.jr A1.out (Nat.le_refl _), RO.jr O1.out (Nat.le_refl _), B1.out⟩
  case round =>
    clear c2 X1 A1 O1 B1
    obtain ⟨k, rfl, hk, hX, hA, hO, hB⟩ := hrel
    have X2 := hid hX
    have A2 := hid hA
    have O2 := hid hO
    have B2 := hid hB
    clear hX hA hO hB
    by_cases hkl : k < t.active.length
    · have hkl' : (k : Int) < (t.active.length : Int) := by omega
      have hkm : k < (mixT t k).length := by rw [mix_len]; exact hkl
      obtain ⟨j, hj⟩ : ∃ j, t.active[k] = j := ⟨_, rfl⟩
      have hmj : (mixT t k)[k] = j := by rw [mix_at hkl, hj]
      have HMN := hid (mix_next hkl)
      rw [hj] at HMN
      obtain ⟨g, off, cap, ev, hBg, hgl, hcells, hset⟩ := A2.out.at hkm hmj
      simp only [Value.slice.injEq] at ev
      obtain ⟨rfl, _, _⟩ := ev
      have HSet := hid hset
      have s4 := hcells 4 _ rfl
      have s5 := hcells 5 _ rfl
      have s4a := s4.1
      have s4b := s4.2
      have s5a := s5.1
      have s5b := s5.2
      have c2 := X2.out.get 2 rfl
      have HKL := hid hkl
      have HNE := hid (show g ≠ X from by
        obtain ⟨_, _, cur, hbk⟩ := A2.out.own (k := g) (by simp [Value.ownBlock])
        exact fun e => kind_ne hbk X2.out (by decide) e)
      have HGB := hid hBg
      have lX := X2.out.lt
      have HKM := hid hkm
      have k64 : (k : Int) ≤ 64 := by have := few.out; omega
      clear hcells hset s4 s5 hj hmj hkm hBg
      go_upto_region 5 with fail
      go_region
      have hne : t.active ≠ [] := fun e => by have := HKL.out; rw [e] at this; simp at this
      have hA2 := HSet.out 4 (.int .u8 0) { j with state := 0 } (by decide) rfl
      obtain ⟨g', off', cap', ev', _, _, _, hset'⟩ := hA2.at (k := k) (by rw [List.length_set]; exact HKM.out) (j := { j with state := 0 }) (List.getElem_set_self _)
      simp only [Value.slice.injEq, Option.some.injEq, Addr.mk.injEq] at ev'
      obtain ⟨⟨rfl, rfl, _⟩, _, _⟩ := ev'
      have A3 := hid (hset' 5 (.int .i64 0) (pj0 j) (by decide) rfl)
      rw [List.set_set, ← HMN.out] at A3
      have O3 := hid (show JR ((wr.setCell ⟨g, off + k * 6 + 4, none⟩ (.int .u8 0)).setCell ⟨g, off + k * 6 + 5, none⟩ (.int .i64 0)) w.heap.size ov t.over from by
        by_cases ho : t.over = []
        · have h0 := O2.out
          rw [ho] at h0 ⊢
          exact jr_nil_set (jr_nil_set h0 _ _ _) _ _ _
        · have hk2 : ∀ q, ov.ownBlock = some q → q ∉ [g] := fun q hq hm => by
            simp at hm
            subst hm
            exact ho (AP.out hne q (by simp [Value.ownBlock]) hq)
          exact (O2.out.chg (chg_setCell _ g _ _) hk2).chg (chg_setCell _ g _ _) hk2)
      have X3 := hid (show Blk ((wr.setCell ⟨g, off + k * 6 + 4, none⟩ (.int .u8 0)).setCell ⟨g, off + k * 6 + 5, none⟩ (.int .i64 0)) X (xV t (.slice (some ⟨g, off, none⟩) t.active.length ca) ov) 100 from (X2.out.keep (chg_setCell _ g _ _) (by simpa using HNE.out.symm)).keep (chg_setCell _ g _ _) (by simpa using HNE.out.symm))
      have B3 := hid (show Below w.heap.size w ((wr.setCell ⟨g, off + k * 6 + 4, none⟩ (.int .u8 0)).setCell ⟨g, off + k * 6 + 5, none⟩ (.int .i64 0)) from blk_below_set (blk_below_set B2.out (chg_setCell _ g _ _) HGB.out) (chg_setCell _ g _ _) HGB.out)
      have X4 := hid (X3.out.below (below_drew _))
      have A4 := hid (A3.out.below (below_drew _))
      have O4 := hid (O3.out.below (below_drew _))
      have B4 := hid (B3.out.trans ((below_drew _).mono B3.out.size))
      clear hset' hA2 s4a s4b s5a s5b c2 lX X2 A2 O2 B2 X3 A3 O3 B3 HSet
      generalize ((wr.setCell ⟨g, off + k * 6 + 4, none⟩ (.int .u8 0)).setCell ⟨g, off + k * 6 + 5, none⟩ (.int .i64 0)).drew = w9 at X4 A4 O4 B4 ⊢
      go_wp2_with fail
      have hkl := HKL.out
      have R : RpRel w X (.slice (some ⟨g, off, none⟩) t.active.length ca) ov t (.int .i64 ((k : Int) + 1)) w9 := ⟨k + 1, by simp, hkl, X4.out, A4.out, O4.out, B4.out⟩
      refine ⟨?_, ?_⟩
      · first | exact R | ((repeat apply Exists.intro); refine ⟨R, ?_⟩; and_intros <;> rfl)
      · simp [intOf]
        omega
    · have hkl' : ¬ ((k : Int) < (t.active.length : Int)) := by omega
      obtain rfl : k = t.active.length := by omega
      go_wp2_with fail
      go_ret
      have h0 := A2.out
      rw [mix_all] at h0
      exact ⟨X, _, ov, rfl, ⟨X2.out, h0, O2.out, G1.out, plainT_ok HOK.out⟩, B2.out⟩
end Go.Proofs.YtombndhjoaaaiaaDoor

/- The walks of layer 16: is a table as the document's is; asked: that both are whole. -/
namespace Go.Proofs.YtombndhjoaaaiaaDoor
open Go.RowKit Go.Quad _root_.Quad _root_.Quad.Ink

set_option maxRecDepth 100000 in
set_option maxHeartbeats 20000000 in
theorem alike_calls (w : World) (B T b : Nat) (ov : Value) (B2 X : Nat) (av xov : Value) (t : TbD) (id : Nat) (h : IsTb w B T b ov t) (hx : IsX w B2 X av xov t) (hI : id < 4294967296) :
    Calls Tryd.prog 32 #[.pointer (some ⟨T, 0, none⟩), .pointer (some ⟨X, 0, none⟩), .int .u32 (id : Int)] w fun e w' => e = .returned (.bool true) ∧ Below w.heap.size w w' := by
  have H := hid h
  obtain ⟨aa, na, ca, eav, hna, hnca, hcsa⟩ := hx.act.cs
  obtain ⟨ao, no, co, eov, hno, hnco, hcso⟩ := hx.over.cs
  subst eav eov hna hno
  have HX := hid hx
  have HA0 := hid hcsa
  have HO0 := hid hcso
  have few := hid h.ok.few
  have hJ1 := hid (job_calls w B T b ov t id h hI)
  have HI := hid hI
  obtain ⟨o, ho⟩ : ∃ o, jobT t id = o := ⟨_, rfl⟩
  rw [ho] at hJ1
  have HOO := hid ho
  obtain ⟨j, hj⟩ : ∃ j, o.getD jobZ = j := ⟨_, rfl⟩
  obtain ⟨sm, hsm⟩ : ∃ sm, o.isSome = sm := ⟨_, rfl⟩
  have hres : jobRes o = .tuple #[.agg (jobV j).toArray, .bool sm] := by unfold jobRes; rw [hj, hsm]
  rw [hres] at hJ1
  have HRES := hid hres
  have hnx : IntKind.u32.wrap ((t.spent : Int) + 1) = (((t.spent + 1) % 4294967296 : Nat) : Int) := by rw [IntKind.wrap_u32]; have := h.ok.spent; omega
  have HNX := hid hnx
  clear h hx hcsa hcso ho hj hsm hres hI hnx
  go_enter Tryd.func32, Tryd.ntmps32
  go_upto_region 5 with (first | (go_at_call 13; go_loud (refine hJ1.out.mono ?_; rintro e w1 ⟨rfl, hb⟩; have B1 := hid hb; clear hb)) | (refine wpListQ_alloc (o := ⟨some 9, _, _, _, _, _⟩) 37 rfl rfl zjob 6 info_job ?_) | (refine wpListQ_store_new (o := ⟨none, _, 0, _, _, _⟩) rfl 37 (.tmp 9) (.tmp 49) rfl zjob (jobV j).toArray rfl rfl size_job rfl (all_oneCell_toArray (jobV_one _)) ?_))
  obtain ⟨z9, hz9⟩ : ∃ z, w1.heap.size = z := ⟨_, rfl⟩
  have b2 := below_alloc w1 (.cells (jobV j).toArray 37)
  have K2 := hid (show Blk (w1.alloc (.cells (jobV j).toArray 37)) z9 (jobV j) 37 from by rw [← hz9]; exact blk_alloc w1 (jobV j) 37)
  have B2' := hid (B1.out.trans (b2.mono B1.out.size))
  rw [hz9]
  clear hJ1 B1 b2 hz9
  generalize (w1.alloc (.cells (jobV j).toArray 37)) = w2 at K2 B2' ⊢
  have hJ2 := rjob_calls w2 B2 X _ _ t id (HX.out.below B2'.out) HI.out
  rw [HOO.out, HRES.out] at hJ2
  have HJ2 := hid hJ2
  clear hJ2
  go_upto_region 6 with (first | (go_at_call 52; go_loud (refine HJ2.out.mono ?_; rintro e w3 ⟨rfl, hb⟩; have B3 := hid (B2'.out.trans (hb.mono B2'.out.size)); have K3 := hid (K2.out.below hb); clear hb)) | (refine wpListQ_alloc (o := ⟨some 11, _, _, _, _, _⟩) 37 rfl rfl zjob 6 info_job ?_) | (refine wpListQ_store_new (o := ⟨none, _, 0, _, _, _⟩) rfl 37 (.tmp 11) (.tmp 55) rfl zjob (jobV j).toArray rfl rfl size_job rfl (all_oneCell_toArray (jobV_one _)) ?_))
  obtain ⟨zb, hzb⟩ : ∃ z, w3.heap.size = z := ⟨_, rfl⟩
  have b4 := below_alloc w3 (.cells (jobV j).toArray 37)
  have K6 := hid (show Blk (w3.alloc (.cells (jobV j).toArray 37)) zb (jobV j) 37 from by rw [← hzb]; exact blk_alloc w3 (jobV j) 37)
  have K5 := hid (K3.out.below b4)
  have B6 := hid (B3.out.trans (b4.mono B3.out.size))
  rw [hzb]
  clear HJ2 B3 b4 hzb K3 K2 B2'
  generalize (w3.alloc (.cells (jobV j).toArray 37)) = w6 at K6 K5 B6 ⊢
  have T6 := hid (H.out.below B6.out)
  have X6 := hid (HX.out.below B6.out)
  have A6 := hid (HA0.out.below B6.out)
  have O6 := hid (HO0.out.below B6.out)
  have MKS := hid fun (W : World) (hW : Below w6.heap.size w6 W) => (show (W.cell? ⟨X, 1, none⟩ = some (.int .u32 (t.spent : Int)) ∧ W.cell? ⟨X, 2, none⟩ = some (.slice aa t.active.length ca) ∧ W.cell? ⟨X, 3, none⟩ = some (.slice ao t.over.length co) ∧ (∀ i : Nat, W.cell? ⟨z9, i, none⟩ = ([.int .u32 (j.id : Int), .int .u8 (j.tier : Int), .int .i64 j.k, .int .i64 j.w, .int .u8 (j.state : Int), .int .i64 j.credit] : List Value)[i]?) ∧ (∀ i : Nat, W.cell? ⟨zb, i, none⟩ = ([.int .u32 (j.id : Int), .int .u8 (j.tier : Int), .int .i64 j.k, .int .i64 j.w, .int .u8 (j.state : Int), .int .i64 j.credit] : List Value)[i]?) ∧ Below w6.heap.size w6 W) from ⟨(X6.out.own.below hW).get 1 rfl, (X6.out.own.below hW).get 2 rfl, (X6.out.own.below hW).get 3 rfl, fun i => (K5.out.below hW).cell i, fun i => (K6.out.below hW).cell i, hW⟩)
  have SB := hid fun (W : World) (hW : (W.cell? ⟨X, 1, none⟩ = some (.int .u32 (t.spent : Int)) ∧ W.cell? ⟨X, 2, none⟩ = some (.slice aa t.active.length ca) ∧ W.cell? ⟨X, 3, none⟩ = some (.slice ao t.over.length co) ∧ (∀ i : Nat, W.cell? ⟨z9, i, none⟩ = ([.int .u32 (j.id : Int), .int .u8 (j.tier : Int), .int .i64 j.k, .int .i64 j.w, .int .u8 (j.state : Int), .int .i64 j.credit] : List Value)[i]?) ∧ (∀ i : Nat, W.cell? ⟨zb, i, none⟩ = ([.int .u32 (j.id : Int), .int .u8 (j.tier : Int), .int .i64 j.k, .int .i64 j.w, .int .u8 (j.state : Int), .int .i64 j.credit] : List Value)[i]?) ∧ Below w6.heap.size w6 W)) => hW.2.2.2.2.2
  have HNX' := HNX.out
  clear HNX HX HA0 HO0 H
  go_region_held_law (fun W => (W.cell? ⟨X, 1, none⟩ = some (.int .u32 (t.spent : Int)) ∧ W.cell? ⟨X, 2, none⟩ = some (.slice aa t.active.length ca) ∧ W.cell? ⟨X, 3, none⟩ = some (.slice ao t.over.length co) ∧ (∀ i : Nat, W.cell? ⟨z9, i, none⟩ = ([.int .u32 (j.id : Int), .int .u8 (j.tier : Int), .int .i64 j.k, .int .i64 j.w, .int .u8 (j.state : Int), .int .i64 j.credit] : List Value)[i]?) ∧ (∀ i : Nat, W.cell? ⟨zb, i, none⟩ = ([.int .u32 (j.id : Int), .int .u8 (j.tier : Int), .int .i64 j.k, .int .i64 j.w, .int .u8 (j.state : Int), .int .i64 j.credit] : List Value)[i]?) ∧ Below w6.heap.size w6 W))
    ((refine MKS.out _ ?_; first | exact below_drew _ | exact (SB.out _ (by assumption)).trans ((below_alloc _ _).mono (SB.out _ (by assumption)).size) | exact Ld.out | exact Lc.out | exact Lb.out | exact La.out | exact L9.out | exact Below.refl _ _))
    (first
      | (go_at_call 17; refine (active_calls _ B T b ov t (T6.out.below (SB.out _ (by assumption)))).mono ?_; rintro e w9 ⟨v9, rfl, hr, hb⟩; obtain ⟨a9, c9, rfl⟩ := ro_slice hr; have L9 := hid ((SB.out _ (by assumption)).trans (hb.mono (SB.out _ (by assumption)).size)); obtain ⟨a', n', c', e1, _, _, hcs⟩ := hr.cs; obtain ⟨rfl, rfl, rfl⟩ : a9 = a' ∧ t.active.length = n' ∧ c9 = c' := (by simpa using e1); have R9 := hid hcs; clear hr hb e1 hcs)
      | (go_at_call 22; refine (samej_calls wb ab ao cb co t.over Rb.out (O6.out.below Lb.out) few.out.2).mono ?_; rintro e wc ⟨rfl, hb⟩; have Lc := hid (Lb.out.trans (hb.mono Lb.out.size)); clear hb)
      | (go_at_call 22; refine (samej_calls w9 a9 aa c9 ca t.active R9.out (A6.out.below L9.out) few.out.1).mono ?_; rintro e wa ⟨rfl, hb⟩; have La := hid (L9.out.trans (hb.mono L9.out.size)); clear hb)
      | (go_at_call 16; refine (over_calls _ B T b ov t (T6.out.below (SB.out _ (by assumption)))).mono ?_; rintro e wb ⟨vb, rfl, hr0, hb⟩; have hr := (show RO jobV 6 wb _ 37 vb t.over from hr0); obtain ⟨ab, cb, rfl⟩ := ro_slice hr; have Lb := hid ((SB.out _ (by assumption)).trans (hb.mono (SB.out _ (by assumption)).size)); obtain ⟨a', n', c', e1, _, _, hcs⟩ := hr.cs; obtain ⟨rfl, rfl, rfl⟩ : ab = a' ∧ t.over.length = n' ∧ cb = c' := (by simpa using e1); have Rb := hid hcs; clear hr hr0 hb e1 hcs)
      | (go_at_call 19; refine (next_calls16 _ B T b ov t (T6.out.below (SB.out _ (by assumption)))).mono ?_; rintro e wd ⟨rfl, rfl⟩))
  all_goals
    go_wp2_with fail
    go_ret
    exact ⟨rfl, B6.out.trans ((show Below w6.heap.size w6 wd from Lc.out).mono B6.out.size)⟩
set_option maxRecDepth 100000 in
set_option maxHeartbeats 8000000 in
theorem nilalike_calls (w : World) (id : Nat) :
    Calls Tryd.prog 32 #[.pointer none, .pointer none, .int .u32 (id : Int)] w fun e w' => e = .returned (.bool true) ∧ Below w.heap.size w w' := by
  have hJ := hid (niljob_calls w 1)
  go_enter Tryd.func32, Tryd.ntmps32
  go_upto_region 3 with (first | (go_at_call 13; go_loud (refine hJ.out.mono ?_; rintro e w1 ⟨rfl, hb⟩; have B1 := hid hb; clear hb; simp only [jobRes, Option.getD_none, Option.isSome_none])) | (refine wpListQ_alloc (o := ⟨some 7, _, _, _, _, _⟩) 37 rfl rfl zjob 6 info_job ?_) | (refine wpListQ_store_new (o := ⟨none, _, 0, _, _, _⟩) rfl 37 (.tmp 7) (.tmp 18) rfl zjob (jobV jobZ).toArray rfl rfl size_job rfl (all_oneCell_toArray (jobV_one _)) ?_))
  have B2 := hid (B1.out.trans ((below_alloc w1 (.cells (jobV jobZ).toArray 37)).mono B1.out.size))
  generalize (w1.alloc (.cells (jobV jobZ).toArray 37)) = w2 at B2 ⊢
  go_wp2_with (first
    | (go_at_call 17; go_loud (refine (nilactive_calls _).mono ?_; rintro e w3 ⟨rfl, rfl⟩))
    | (go_at_call 16; go_loud (refine (nilover_calls _).mono ?_; rintro e w3 ⟨rfl, rfl⟩))
    | (go_at_call 19; go_loud (refine (nilnext_calls _).mono ?_; rintro e w3 ⟨rfl, rfl⟩))
    | (go_at_call 20; go_loud (refine (niljbytes_calls _).mono ?_; rintro e w3 ⟨rfl, rfl⟩)))
  go_ret
  exact ⟨rfl, B2.out⟩
end Go.Proofs.YtombndhjoaaaiaaDoor

/- Two tables side by side, the code's and the document's, or two nil ones; what each call does to them. -/
namespace Go.Proofs.YtombndhjoaaaiaaDoor
open Go.RowKit Go.Quad _root_.Quad _root_.Quad.Ink

def ndo (nl : Bool) (t : TbD) (q : ReqD) : TbD × RepD × Bool := if nl then (t, { repQ q with e := 6 }, false) else doT t q
def nfin (nl : Bool) (t : TbD) (id : Nat) : TbD × Int := if nl then (t, 6) else finishT t id
def ncre (nl : Bool) (t : TbD) (id : Nat) (n : Int) : TbD × Int := if nl then (t, 6) else creditT t id n
def nsta (nl : Bool) (t : TbD) (id s : Nat) : TbD × Int := if nl then (t, 6) else stateT t id s
/-- the code's table at p, or none -/
def CT (nl : Bool) (w0 : World) (p : Value) (s : TbD) (S : List Nat) (W : World) : Prop :=
  if nl then p = .pointer none ∧ S = [] else ∃ T b ov, p = .pointer (some ⟨T, 0, none⟩) ∧ IsTb W w0.heap.size T b ov s ∧ S = tbS T b ov
def DT (nl : Bool) (w0 : World) (p : Value) (t : TbD) (S : List Nat) (W : World) : Prop :=
  if nl then p = .pointer none ∧ S = [] else ∃ X av ov, p = .pointer (some ⟨X, 0, none⟩) ∧ IsX W w0.heap.size X av ov t ∧ S = xS X av ov
theorem CT.chg {nl : Bool} {w0 W W' : World} {p : Value} {s : TbD} {S S' : List Nat} (h : CT nl w0 p s S W) (hc : Chg S' W W') (hd : ∀ k ∈ S, k ∉ S') : CT nl w0 p s S W' := by
  cases nl
  · obtain ⟨T, b, ov, h1, h2, h3⟩ := h
    exact ⟨T, b, ov, h1, h2.chg hc (by rw [← h3]; exact hd), h3⟩
  · exact h
theorem DT.chg {nl : Bool} {w0 W W' : World} {p : Value} {s : TbD} {S S' : List Nat} (h : DT nl w0 p s S W) (hc : Chg S' W W') (hd : ∀ k ∈ S, k ∉ S') : DT nl w0 p s S W' := by
  cases nl
  · obtain ⟨T, b, ov, h1, h2, h3⟩ := h
    exact ⟨T, b, ov, h1, h2.chg hc (by rw [← h3]; exact hd), h3⟩
  · exact h
theorem CT.lt {nl : Bool} {w0 W : World} {p : Value} {s : TbD} {S : List Nat} (h : CT nl w0 p s S W) : ∀ k ∈ S, w0.heap.size ≤ k ∧ k < W.heap.size := by
  cases nl
  · obtain ⟨T, b, ov, h1, h2, h3⟩ := h
    rw [h3]; exact h2.lt
  · obtain ⟨_, h⟩ := h
    rw [h]; simp
theorem DT.lt {nl : Bool} {w0 W : World} {p : Value} {s : TbD} {S : List Nat} (h : DT nl w0 p s S W) : ∀ k ∈ S, w0.heap.size ≤ k ∧ k < W.heap.size := by
  cases nl
  · obtain ⟨T, b, ov, h1, h2, h3⟩ := h
    rw [h3]; exact h2.lt
  · obtain ⟨_, h⟩ := h
    rw [h]; simp
/-- what a call that changes one table ensures: R is CT or DT at its place -/
def STo (R : TbD → List Nat → World → Prop) (s' : TbD) (S : List Nat) (r : Value) (W : World) (e : Ending) (W' : World) : Prop :=
  e = .returned r ∧ ∃ S', R s' S' W' ∧ Chg S W W' ∧ ∀ k ∈ S', k ∈ S ∨ W.heap.size ≤ k
theorem STo.of_tb {w0 W W' : World} {T b : Nat} {ov : Value} {s' : TbD} {r : Value} {e : Ending} (h : TbTo W w0.heap.size T b ov s' r e W') : STo (fun s S W => CT false w0 (.pointer (some ⟨T, 0, none⟩)) s S W) s' (tbS T b ov) r W e W' := by
  obtain ⟨h1, ov', h2, h3, h4⟩ := h
  refine ⟨h1, tbS T b ov', ⟨T, b, ov', rfl, h2, rfl⟩, h3, fun k hk => ?_⟩
  rcases List.mem_cons.1 hk with rfl | hk
  · exact .inl (by simp [tbS])
  · rcases List.mem_cons.1 hk with rfl | hk
    · exact .inl (by simp [tbS])
    · exact h4 k (by simpa using hk)
theorem STo.of_x {w0 W W' : World} {X : Nat} {av ov : Value} {s' : TbD} {r : Value} {e : Ending} (h : XTo W w0.heap.size X av ov s' r e W') : STo (fun s S W => DT false w0 (.pointer (some ⟨X, 0, none⟩)) s S W) s' (xS X av ov) r W e W' := by
  obtain ⟨h1, av', ov', h2, h3, h4⟩ := h
  exact ⟨h1, xS X av' ov', ⟨X, av', ov', rfl, h2, rfl⟩, h3, h4⟩
theorem STo.nilC {w0 W W' : World} {s : TbD} {r : Value} {e : Ending} (he : e = .returned r) (hb : Below W.heap.size W W') : STo (fun s S W => CT true w0 (.pointer none) s S W) s [] r W e W' := ⟨he, [], ⟨rfl, rfl⟩, Chg.of_below _ hb, by simp⟩
theorem STo.nilD {w0 W W' : World} {s : TbD} {r : Value} {e : Ending} (he : e = .returned r) (hb : Below W.heap.size W W') : STo (fun s S W => DT true w0 (.pointer none) s S W) s [] r W e W' := ⟨he, [], ⟨rfl, rfl⟩, Chg.of_below _ hb, by simp⟩

/-! ### each call -/
theorem cdo {nl : Bool} {w0 W : World} {p : Value} {s : TbD} {S : List Nat} (h : CT nl w0 p s S W) (q : ReqD) (hq : q.Ok) (hl : Laid W) :
    Calls Tryd.prog 11 #[p, .agg #[.int .u8 (q.client : Int), .int .u32 (q.seq : Int), .int .u8 (q.kind : Int), .int .u8 (q.tier : Int), .int .i64 q.k, .int .i64 q.w, .int .u32 (q.job : Int)]] W (STo (fun s S W => CT nl w0 p s S W) (ndo nl s q).1 S (doRes (ndo nl s q).2) W) := by
  cases nl
  · obtain ⟨T, b, ov, rfl, h2, rfl⟩ := h
    exact (do_calls W _ T b ov s q h2 hq hl).mono fun e W' ht => STo.of_tb ht
  · obtain ⟨rfl, rfl⟩ := h
    exact (nildo_calls W q hq).mono fun e W' ht => STo.nilC ht.1 ht.2
theorem ddo {nl : Bool} {w0 W : World} {p : Value} {s : TbD} {S : List Nat} (h : DT nl w0 p s S W) (q : ReqD) (hq : q.Ok) :
    Calls Tryd.prog 24 #[p, .agg #[.int .u8 (q.client : Int), .int .u32 (q.seq : Int), .int .u8 (q.kind : Int), .int .u8 (q.tier : Int), .int .i64 q.k, .int .i64 q.w, .int .u32 (q.job : Int)]] W (STo (fun s S W => DT nl w0 p s S W) (ndo nl s q).1 S (doRes (ndo nl s q).2) W) := by
  cases nl
  · obtain ⟨X, av, ov, rfl, h2, rfl⟩ := h
    exact (rdo_calls W _ X av ov s q h2 hq).mono fun e W' ht => STo.of_x ht
  · obtain ⟨rfl, rfl⟩ := h
    exact (nilrdo_calls W q).mono fun e W' ht => STo.nilD ht.1 ht.2
theorem cfin {nl : Bool} {w0 W : World} {p : Value} {s : TbD} {S : List Nat} (h : CT nl w0 p s S W) (id : Nat) (hi : id < 4294967296) :
    Calls Tryd.prog 14 #[p, .int .u32 (id : Int)] W (STo (fun s S W => CT nl w0 p s S W) (nfin nl s id).1 S (.int .i64 (nfin nl s id).2) W) := by
  cases nl
  · obtain ⟨T, b, ov, rfl, h2, rfl⟩ := h
    exact (finish_calls W _ T b ov s id h2 hi).mono fun e W' ht => STo.of_tb ht
  · obtain ⟨rfl, rfl⟩ := h
    exact (nilfinish_calls W id).mono fun e W' ht => STo.nilC ht.1 ht.2
theorem dfin {nl : Bool} {w0 W : World} {p : Value} {s : TbD} {S : List Nat} (h : DT nl w0 p s S W) (id : Nat) (hi : id < 4294967296) :
    Calls Tryd.prog 25 #[p, .int .u32 (id : Int)] W (STo (fun s S W => DT nl w0 p s S W) (nfin nl s id).1 S (.int .i64 (nfin nl s id).2) W) := by
  cases nl
  · obtain ⟨X, av, ov, rfl, h2, rfl⟩ := h
    exact (rfinish_calls W _ X av ov s id h2 hi).mono fun e W' ht => STo.of_x ht
  · obtain ⟨rfl, rfl⟩ := h
    exact (nilrfinish_calls W id).mono fun e W' ht => STo.nilD ht.1 ht.2
theorem ccre {nl : Bool} {w0 W : World} {p : Value} {s : TbD} {S : List Nat} (h : CT nl w0 p s S W) (id : Nat) (n : Int) (hi : id < 4294967296) (hn : -9223372036854775808 ≤ n ∧ n ≤ 9223372036854775807) :
    Calls Tryd.prog 12 #[p, .int .u32 (id : Int), .int .i64 n] W (STo (fun s S W => CT nl w0 p s S W) (ncre nl s id n).1 S (.int .i64 (ncre nl s id n).2) W) := by
  cases nl
  · obtain ⟨T, b, ov, rfl, h2, rfl⟩ := h
    exact (credit_calls W _ T b ov s id n h2 hi hn).mono fun e W' ht => STo.of_tb ht
  · obtain ⟨rfl, rfl⟩ := h
    exact (nilcredit_calls W id n).mono fun e W' ht => STo.nilC ht.1 ht.2
theorem dcre {nl : Bool} {w0 W : World} {p : Value} {s : TbD} {S : List Nat} (h : DT nl w0 p s S W) (id : Nat) (n : Int) (hi : id < 4294967296) (hn : -9223372036854775808 ≤ n ∧ n ≤ 9223372036854775807) :
    Calls Tryd.prog 26 #[p, .int .u32 (id : Int), .int .i64 n] W (STo (fun s S W => DT nl w0 p s S W) (ncre nl s id n).1 S (.int .i64 (ncre nl s id n).2) W) := by
  cases nl
  · obtain ⟨X, av, ov, rfl, h2, rfl⟩ := h
    exact (rcredit_calls W _ X av ov s id n h2 hi hn).mono fun e W' ht => STo.of_x ht
  · obtain ⟨rfl, rfl⟩ := h
    exact (nilrcredit_calls W id n).mono fun e W' ht => STo.nilD ht.1 ht.2
theorem csta {nl : Bool} {w0 W : World} {p : Value} {s : TbD} {S : List Nat} (h : CT nl w0 p s S W) (id st : Nat) (hi : id < 4294967296) (hn : st < 256) :
    Calls Tryd.prog 27 #[p, .int .u32 (id : Int), .int .u8 (st : Int)] W (STo (fun s S W => CT nl w0 p s S W) (nsta nl s id st).1 S (.int .i64 (nsta nl s id st).2) W) := by
  cases nl
  · obtain ⟨T, b, ov, rfl, h2, rfl⟩ := h
    exact (state_calls W _ T b ov s id st h2 hi hn).mono fun e W' ht => STo.of_tb ht
  · obtain ⟨rfl, rfl⟩ := h
    exact (nilstate_calls W id st hn).mono fun e W' ht => STo.nilC ht.1 ht.2
theorem dsta {nl : Bool} {w0 W : World} {p : Value} {s : TbD} {S : List Nat} (h : DT nl w0 p s S W) (id st : Nat) (hi : id < 4294967296) (hn : st < 256) :
    Calls Tryd.prog 28 #[p, .int .u32 (id : Int), .int .u8 (st : Int)] W (STo (fun s S W => DT nl w0 p s S W) (nsta nl s id st).1 S (.int .i64 (nsta nl s id st).2) W) := by
  cases nl
  · obtain ⟨X, av, ov, rfl, h2, rfl⟩ := h
    exact (rstate_calls W _ X av ov s id st h2 hi hn).mono fun e W' ht => STo.of_x ht
  · obtain ⟨rfl, rfl⟩ := h
    exact (nilrstate_calls W id st).mono fun e W' ht => STo.nilD ht.1 (by rw [ht.2]; exact Below.refl _ _)
/-- a copy: new, apart -/
theorem ccopy {nl : Bool} {w0 W : World} {p : Value} {s : TbD} {S : List Nat} (h : CT nl w0 p s S W) (hw : w0.heap.size ≤ W.heap.size) :
    Calls Tryd.prog 18 #[p] W fun e W' => ∃ p' S', e = .returned p' ∧ CT nl w0 p' s S' W' ∧ Below W.heap.size W W' ∧ ∀ k ∈ S', W.heap.size ≤ k := by
  cases nl
  · obtain ⟨T, b, ov, rfl, h2, rfl⟩ := h
    refine (jcopy_calls W _ T b ov s h2).mono ?_
    rintro e W' ⟨T2, b2, ov2, rfl, h3, h4⟩
    exact ⟨_, _, rfl, ⟨T2, b2, ov2, rfl, h3.base hw, rfl⟩, h4, fun k hk => (h3.lt k hk).1⟩
  · obtain ⟨rfl, rfl⟩ := h
    refine (niljcopy_calls W).mono ?_
    rintro e W' ⟨rfl, rfl⟩
    exact ⟨_, [], rfl, ⟨rfl, rfl⟩, Below.refl _ _, by simp⟩
theorem IsX.base {w : World} {B B' X : Nat} {av ov : Value} {t : TbD} (h : IsX w B X av ov t) (hB : B' ≤ B) : IsX w B' X av ov t := ⟨h.own, JR.base h.act hB, JR.base h.over hB, Nat.le_trans hB h.ge, h.ok⟩
theorem dcopy {nl : Bool} {w0 W : World} {p : Value} {s : TbD} {S : List Nat} (h : DT nl w0 p s S W) (hw : w0.heap.size ≤ W.heap.size) :
    Calls Tryd.prog 31 #[p] W fun e W' => ∃ p' S', e = .returned p' ∧ DT nl w0 p' s S' W' ∧ Below W.heap.size W W' ∧ ∀ k ∈ S', W.heap.size ≤ k := by
  cases nl
  · obtain ⟨X, av, ov, rfl, h2, rfl⟩ := h
    have hok := h2.ok
    refine (rcopy_calls W _ X av ov s h2).mono ?_
    rintro e W' ⟨X2, av2, ov2, rfl, h3, h4, h5, h6, h7⟩
    have hI : IsX W' W.heap.size X2 av2 ov2 s := ⟨h3, RO.jr h5 (Nat.le_refl _), RO.jr h6 (Nat.le_refl _), h4, hok⟩
    exact ⟨_, _, rfl, ⟨X2, av2, ov2, rfl, hI.base hw, rfl⟩, h7, fun k hk => (hI.lt k hk).1⟩
  · obtain ⟨rfl, rfl⟩ := h
    refine (nilrcopy_calls W).mono ?_
    rintro e W' ⟨rfl, rfl⟩
    exact ⟨_, [], rfl, ⟨rfl, rfl⟩, Below.refl _ _, by simp⟩
theorem dplain {w0 W : World} {p : Value} {s : TbD} {S : List Nat} (h : DT false w0 p s S W) (hf : Fit s) (hw : w0.heap.size ≤ W.heap.size) :
    Calls Tryd.prog 30 #[p] W fun e W' => ∃ p' S', e = .returned p' ∧ DT false w0 p' (plainT s) S' W' ∧ Below W.heap.size W W' ∧ ∀ k ∈ S', W.heap.size ≤ k := by
  obtain ⟨X, av, ov, rfl, h2, rfl⟩ := h
  refine (rplain_calls W _ X av ov s h2 hf).mono ?_
  rintro e W' ⟨X2, av2, ov2, rfl, h3, h4⟩
  exact ⟨_, _, rfl, ⟨X2, av2, ov2, rfl, h3.base hw, rfl⟩, h4, fun k hk => (h3.lt k hk).1⟩
theorem cbytes {w0 W : World} {p : Value} {s : TbD} {S : List Nat} (h : CT false w0 p s S W) :
    Calls Tryd.prog 20 #[p] W fun e W' => ∃ a c, e = .returned (.slice a (bytesT s).length c) ∧ BS W' a c (bytesT s) ∧ (∀ x, a = some x → W.heap.size ≤ x.block ∧ x.block < W'.heap.size) ∧ Below W.heap.size W W' := by
  obtain ⟨T, b, ov, rfl, h2, rfl⟩ := h
  refine (jbytes_calls W _ T b ov s h2).mono ?_
  rintro e W' ⟨v, rfl, ho, hb⟩
  obtain ⟨a, c, rfl, hbs, hx⟩ := ho.bs
  exact ⟨a, c, rfl, hbs, fun x hx' => ⟨(hx x hx').2.2.1, (hx x hx').2.2.2⟩, hb⟩
theorem cread {w0 W : World} {t : TbD} {a : Option Addr} {c : Nat} (ht : t.Ok) (hf : Fit t) (hs : BS W a c (bytesT t)) (hx : ∀ x, a = some x → x.block < W.heap.size) (hw : w0.heap.size ≤ W.heap.size) :
    Calls Tryd.prog 29 #[.slice a (bytesT t).length c, .int .i64 t.nodes] W fun e W' => ∃ p' S', e = .returned (.tuple #[p', .int .i64 0]) ∧ CT false w0 p' (plainT t) S' W' ∧ Below W.heap.size W W' ∧ ∀ k ∈ S', W.heap.size ≤ k := by
  refine (jread_calls W t a c ht hf hs hx).mono ?_
  rintro e W' ⟨T, b, ov, rfl, h3, h4⟩
  exact ⟨_, _, rfl, ⟨T, b, ov, rfl, h3.base hw, rfl⟩, h4, fun k hk => (h3.lt k hk).1⟩
theorem calike {nl : Bool} {w0 W : World} {p1 p2 : Value} {t : TbD} {S1 S2 : List Nat} (h1 : CT nl w0 p1 t S1 W) (h2 : DT nl w0 p2 t S2 W) (id : Nat) (hi : id < 4294967296) :
    Calls Tryd.prog 32 #[p1, p2, .int .u32 (id : Int)] W fun e W' => e = .returned (.bool true) ∧ Below W.heap.size W W' := by
  cases nl
  · obtain ⟨T, b, ov, rfl, h3, rfl⟩ := h1
    obtain ⟨X, av, ov2, rfl, h4, rfl⟩ := h2
    exact alike_calls W _ T b ov _ X av ov2 t id h3 h4 hi
  · obtain ⟨rfl, rfl⟩ := h1
    obtain ⟨rfl, rfl⟩ := h2
    exact nilalike_calls W id

/-! ### two side by side, and blocks of the law's own beside them -/
structure Pair (nl : Bool) (w0 : World) (p1 p2 : Value) (s t : TbD) (G : List Nat) (W : World) : Prop where
  bel : Below w0.heap.size w0 W
  ex : ∃ S1 S2, CT nl w0 p1 s S1 W ∧ DT nl w0 p2 t S2 W ∧ (∀ k ∈ S1, k ∉ S2) ∧ ∀ g ∈ G, g < W.heap.size ∧ g ∉ S1 ∧ g ∉ S2
theorem Pair.chgG {nl : Bool} {w0 W W' : World} {p1 p2 : Value} {s t : TbD} {G S : List Nat} (h : Pair nl w0 p1 p2 s t G W) (hc : Chg S W W') (hS : ∀ k ∈ S, k ∈ G ∧ w0.heap.size ≤ k) : Pair nl w0 p1 p2 s t G W' := by
  obtain ⟨hb, S1, S2, h1, h2, h3, h4⟩ := h
  refine ⟨hb.trans (hc.below hb.size fun k hk => (hS k hk).2), S1, S2, h1.chg hc (fun k hk hm => (h4 k (hS k hm).1).2.1 hk), h2.chg hc (fun k hk hm => (h4 k (hS k hm).1).2.2 hk), h3, fun g hg => ⟨Nat.lt_of_lt_of_le (h4 g hg).1 hc.size, (h4 g hg).2⟩⟩
theorem Pair.below {nl : Bool} {w0 W W' : World} {p1 p2 : Value} {s t : TbD} {G : List Nat} (h : Pair nl w0 p1 p2 s t G W) (hb : Below W.heap.size W W') : Pair nl w0 p1 p2 s t G W' := h.chgG (Chg.of_below [] hb) (by simp)
theorem Pair.mono {nl : Bool} {w0 W : World} {p1 p2 : Value} {s t : TbD} {G G' : List Nat} (h : Pair nl w0 p1 p2 s t G W) (hG : ∀ g ∈ G', g ∈ G) : Pair nl w0 p1 p2 s t G' W := by
  obtain ⟨hb, S1, S2, h1, h2, h3, h4⟩ := h
  exact ⟨hb, S1, S2, h1, h2, h3, fun g hg => h4 g (hG g hg)⟩
theorem Pair.add {nl : Bool} {w0 W W' : World} {p1 p2 : Value} {s t : TbD} {G : List Nat} (h : Pair nl w0 p1 p2 s t G W) (hb : Below W.heap.size W W') {L : List Nat} (hL : ∀ g ∈ L, W.heap.size ≤ g ∧ g < W'.heap.size) : Pair nl w0 p1 p2 s t (L ++ G) W' := by
  obtain ⟨hb0, S1, S2, h1, h2, h3, h4⟩ := h
  have e1 := h1.lt
  have e2 := h2.lt
  refine ⟨hb0.trans (hb.mono hb0.size), S1, S2, h1.chg (Chg.of_below [] hb) (by simp), h2.chg (Chg.of_below [] hb) (by simp), h3, fun g hg => ?_⟩
  rcases List.mem_append.1 hg with hg | hg
  · have := hL g hg
    exact ⟨this.2, fun hm => by have := (e1 g hm).2; omega, fun hm => by have := (e2 g hm).2; omega⟩
  · exact ⟨Nat.lt_of_lt_of_le (h4 g hg).1 hb.size, (h4 g hg).2⟩
/-- a call on the code's table -/
def PTo1 (nl : Bool) (w0 : World) (p1 p2 : Value) (s' t : TbD) (G : List Nat) (r : Value) (W : World) (e : Ending) (W' : World) : Prop := e = .returned r ∧ Pair nl w0 p1 p2 s' t G W' ∧ ∃ S, Chg S W W' ∧ ∀ k ∈ S, k ∉ G
theorem Pair.step1 {nl : Bool} {w0 W : World} {p1 p2 : Value} {s s' t : TbD} {G : List Nat} {r : Value} {f : Nat} {args : Array Value} (h : Pair nl w0 p1 p2 s t G W)
    (hc : ∀ S, CT nl w0 p1 s S W → Calls Tryd.prog f args W (STo (fun s S W => CT nl w0 p1 s S W) s' S r W)) : Calls Tryd.prog f args W (PTo1 nl w0 p1 p2 s' t G r W) := by
  obtain ⟨hb, S1, S2, h1, h2, h3, h4⟩ := h
  refine (hc S1 h1).mono ?_
  rintro e W' ⟨rfl, S1', k1, k2, k3⟩
  have e1 := h1.lt
  have e2 := h2.lt
  refine ⟨rfl, ⟨hb.trans (k2.below hb.size fun k hk => (e1 k hk).1), S1', S2, k1, h2.chg k2 (fun k hk hm => h3 k hm hk), fun k hk hm => ?_, fun g hg => ⟨Nat.lt_of_lt_of_le (h4 g hg).1 k2.size, fun hm => ?_, (h4 g hg).2.2⟩⟩, S1, k2, fun k hk hm => (h4 k hm).2.1 hk⟩
  · rcases k3 k hk with h | h
    · exact h3 k h hm
    · have := (e2 k hm).2; omega
  · rcases k3 g hm with h | h
    · exact (h4 g hg).2.1 h
    · have := (h4 g hg).1; omega
theorem Pair.step2 {nl : Bool} {w0 W : World} {p1 p2 : Value} {s t t' : TbD} {G : List Nat} {r : Value} {f : Nat} {args : Array Value} (h : Pair nl w0 p1 p2 s t G W)
    (hc : ∀ S, DT nl w0 p2 t S W → Calls Tryd.prog f args W (STo (fun s S W => DT nl w0 p2 s S W) t' S r W)) : Calls Tryd.prog f args W (PTo1 nl w0 p1 p2 s t' G r W) := by
  obtain ⟨hb, S1, S2, h1, h2, h3, h4⟩ := h
  refine (hc S2 h2).mono ?_
  rintro e W' ⟨rfl, S2', k1, k2, k3⟩
  have e1 := h1.lt
  have e2 := h2.lt
  refine ⟨rfl, ⟨hb.trans (k2.below hb.size fun k hk => (e2 k hk).1), S1, S2', h1.chg k2 (fun k hk hm => h3 k hk hm), k1, fun k hk hm => ?_, fun g hg => ⟨Nat.lt_of_lt_of_le (h4 g hg).1 k2.size, (h4 g hg).2.1, fun hm => ?_⟩⟩, S2, k2, fun k hk hm => (h4 k hm).2.2 hk⟩
  · rcases k3 k hm with h | h
    · exact h3 k hk h
    · have := (e1 k hk).2; omega
  · rcases k3 g hm with h | h
    · exact (h4 g hg).2.2 h
    · have := (h4 g hg).1; omega
end Go.Proofs.YtombndhjoaaaiaaDoor
