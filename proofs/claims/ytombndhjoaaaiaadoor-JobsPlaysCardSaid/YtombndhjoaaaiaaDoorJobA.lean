/- The walks of layer 16: a job that is known. -/
import Derived.Test.YtombndhjoaaaiaaDoorJobMem
import Derived.Test.YtombndhjoaaaiaaDoorRowOps
import Derived.Test.YtombndhjoaaaiaaDoorArr
import Derived.Deep.DeepMust
import Derived.Deep.CutBlock
namespace Go.Proofs.YtombndhjoaaaiaaDoor
open Go.RowKit Go.Quad _root_.Quad _root_.Quad.Ink

def zjob : Array Value := #[.int .u32 0, .int .u8 0, .int .i64 0, .int .i64 0, .int .u8 0, .int .i64 0]
theorem info_job : (Tryd.prog.info? 37).map (fun i => (i.zero, i.size)) = some (some (.agg zjob), 6) := by kernel_rfl
theorem size_job : (Tryd.prog.info? 37).map (·.size) = some 6 := by kernel_rfl
theorem zeroJob (w : World) : (zeroValue 37).run Tryd.prog w = .ok (.agg (jobV jobZ).toArray) w := by kernel_rfl
theorem row_job : ∃ d, Tryd.prog.underlying 37 = some d ∧ d.isRow = true := ⟨_, Tryd.underlying37, rfl⟩

theorem wpList_load_row6 {P : Program} {w : World} {ops : Array Oper} {rest : List Oper} {o : Oper} {ac : Act} {Q : Exit → Act → World → Prop}
    (t : TypeId) (x : Operand) (ho : o.op = .load t x) (hw : Region.wanted o (yielded ops ac.tmps) = true) (g off : Nat) (cs : List Value) (hx : ac.eval x = .pointer (some ⟨g, off, none⟩)) (hB : w.rangeAt g off cs)
    (hu : ∃ d, P.underlying t = some d ∧ d.isRow = true) (hi : (P.info? t).map (·.size) = some cs.length)
    (hK : wpList P ops Q rest (ac.put o.dst (.agg cs.toArray)) w) : wpList P ops Q (o :: rest) ac w := by
  obtain ⟨d, h1, h2⟩ := hu
  have hr := run_loadAt_mid (P := P) w g off t cs d hB h1 h2 hi
  refine wpList_by (fun v w' => v = .agg cs.toArray ∧ w' = w) hw ⟨_, _, ?_, rfl, rfl⟩ (by rintro v w' ⟨rfl, rfl⟩; exact hK)
  simp only [execOp, ho, hx, Sem.run_bind, hr, Result.andThen_ok, Sem.run_pure]
theorem find1_calls (w : World) (j : JobD) (c id : Nat) (hc : w.cell? ⟨c, 0, none⟩ = some (.int .u32 (id : Int))) :
    Calls Tryd.prog 63 #[.agg (jobV j).toArray, .pointer (some ⟨c, 0, none⟩)] w fun e w' => e = .returned (.bool (j.id == id)) ∧ Below w.heap.size w w' := by
  have hlt := World.block_lt_of_cell? w ⟨c, 0, none⟩ hc
  dsimp only at hlt
  have K := hid (blk_alloc w (jobV j) 37)
  have hb := below_alloc w (.cells (jobV j).toArray 37)
  have k0 := K.out.get 0 rfl
  have k1 : (w.alloc (.cells (jobV j).toArray 37)).cell? ⟨c, 0, none⟩ = some (.int .u32 (id : Int)) := by rw [hb.cell (p := ⟨c, 0, none⟩) hlt]; exact hc
  have B := hid hb
  have e1 : ((j.id : Int) == (id : Int)) = (j.id == id) := by
    by_cases h : j.id = id
    · subst h; simp
    · rw [beq_eq_false_iff_ne.2 h, beq_eq_false_iff_ne]; omega
  clear hb hc
  simp only [jobV] at k0 k1 B ⊢
  go_enter Tryd.func63, Tryd.ntmps63
  go_wp2_with fail
  go_ret
  exact ⟨rfl, B.out⟩

def FindTo (w : World) (l : List JobD) (id : Nat) (e : Ending) (w' : World) : Prop :=
  ∃ r : Int, e = .returned (.int .i64 r) ∧ Below w.heap.size w w' ∧ ((r = -1 ∧ l.find? (fun j => j.id == id) = none) ∨ ∃ (i : Nat) (j : JobD), r = (i : Int) ∧ l[i]? = some j ∧ l.find? (fun j => j.id == id) = some j)
theorem find_first : ∀ (l : List JobD) (id i : Nat) (j : JobD), l[i]? = some j → j.id = id → (∀ x, x < i → ∀ y, l[x]? = some y → y.id ≠ id) → l.find? (fun j => j.id == id) = some j
  | [], _, _, _, h, _, _ => by simp at h
  | y :: l, id, 0, j, h, e, _ => by
    simp at h; subst h
    rw [List.find?_cons, e, beq_self_eq_true]
  | y :: l, id, i + 1, j, h, e, hn => by
    have hy : (y.id == id) = false := by rw [beq_eq_false_iff_ne]; exact hn 0 (by omega) y rfl
    rw [List.find?_cons, hy]
    exact find_first l id i j (by simpa using h) e fun x hx z hz => hn (x + 1) (by omega) z (by simpa using hz)
theorem find_none {l : List JobD} {id : Nat} (h : ∀ (x : Nat) (y : JobD), l[x]? = some y → y.id ≠ id) : l.find? (fun j => j.id == id) = none := by
  rw [List.find?_eq_none]
  intro y hy
  obtain ⟨x, hx, e⟩ := List.mem_iff_getElem.1 hy
  simpa using h x y (by rw [List.getElem?_eq_getElem hx, e])
def IfRel (w : World) (l : List JobD) (id : Nat) (iv : Value) (wr : World) : Prop := ∃ i : Nat, iv = .int .i64 (i : Int) ∧ i ≤ l.length ∧ Below w.heap.size w wr ∧ ∀ (x : Nat) (y : JobD), x < i → l[x]? = some y → y.id ≠ id

set_option maxRecDepth 100000 in
set_option maxHeartbeats 1000000 in
theorem indexfunc_calls (w : World) (a : Option Addr) (n cp : Nat) (l : List JobD) (c id : Nat) (h : CS w a cp 6 (l.flatMap jobV)) (hn : l.length = n) (hnb : (n : Int) ≤ 1000) (hc : w.cell? ⟨c, 0, none⟩ = some (.int .u32 (id : Int))) :
    Calls Tryd.prog 62 #[.slice a n cp, .func (.func 63) #[] #[.pointer (some ⟨c, 0, none⟩)]] w (FindTo w l id) := by
  have hlt := World.block_lt_of_cell? w ⟨c, 0, none⟩ hc
  dsimp only at hlt
  have H := hid h
  have HC := hid hc
  clear h hc
  go_enter Tryd.func62, Tryd.ntmps62
  go_wp2_with fail
  go_loopw [8] (fun iv wr => IfRel w l id iv wr) (fun iv _ => n - (intOf iv).toNat)
  case atStart => exact ⟨0, rfl, Nat.zero_le _, Below.refl _ _, fun x y hx => by omega⟩
  case round =>
    obtain ⟨i, rfl, hi, hb, hno⟩ := hrel
    have B := hid hb
    have HNo := hid hno
    clear hb hno
    obtain ⟨w1, hw1⟩ : ∃ w1 : World, w1 = wr := ⟨_, rfl⟩
    rw [← hw1] at B ⊢
    clear hw1
    by_cases hil : i < l.length
    · have hil' : (i : Int) < (n : Int) := by omega
      obtain ⟨bo, off, rfl, hcell⟩ := cs_row jobV_length H.out hil (by decide)
      obtain ⟨j, hj⟩ : ∃ j, l[i]? = some j := ⟨_, List.getElem?_eq_getElem hil⟩
      have HR := hid (show w1.rangeAt bo (off + i * 6) (jobV j) from fun x v hv => by
        have e : l[i] = j := by have := hj; rw [List.getElem?_eq_getElem hil] at this; exact Option.some.inj this
        exact cell_later B.out (hcell x v (by rw [e]; exact hv)))
      have HJ := hid hj
      clear hcell hj
      have hC := hid (find1_calls w1 j c id (by rw [B.out.cell (p := ⟨c, 0, none⟩) hlt]; exact HC.out))
      by_cases he : j.id = id
      · have e1 : (j.id == id) = true := by simpa using he
        rw [e1] at hC
        have hf := hid (find_first l id i j HJ.out he fun x hx y hy => HNo.out x y hx hy)
        clear he e1
        go_wp2_with (first | (refine wpList_load_row6 (o := ⟨some 15, _, _, _, _, _⟩) 37 (.tmp 14) rfl rfl bo (off + i * 6) (jobV j) rfl HR.out row_job size_job ?_) | (go_at_call 63; go_loud (refine hC.out.mono ?_; rintro e w2 ⟨rfl, hb2⟩; have B2 := hid (B.out.trans (hb2.mono B.out.size)); clear hb2)))
        go_ret
        exact ⟨(i : Int), rfl, B2.out, .inr ⟨i, j, rfl, HJ.out, hf.out⟩⟩
      · have e1 : (j.id == id) = false := by simpa using he
        rw [e1] at hC
        have hne := hid he
        clear he e1
        go_wp2_with (first | (refine wpList_load_row6 (o := ⟨some 15, _, _, _, _, _⟩) 37 (.tmp 14) rfl rfl bo (off + i * 6) (jobV j) rfl HR.out row_job size_job ?_) | (go_at_call 63; go_loud (refine hC.out.mono ?_; rintro e w2 ⟨rfl, hb2⟩; have B2 := hid (B.out.trans (hb2.mono B.out.size)); clear hb2)))
        have R : IfRel w l id (.int .i64 ((i : Int) + 1)) w2 := ⟨i + 1, by go_num, hil, B2.out, fun x y hx hy => by
          by_cases e : x = i
          · subst e; rw [HJ.out] at hy; cases hy; exact hne.out
          · exact HNo.out x y (by omega) hy⟩
        refine ⟨?_, by simp [intOf]; omega⟩
        first | exact R | ((repeat apply Exists.intro); refine ⟨R, ?_⟩; and_intros <;> rfl)
    · obtain ⟨z, hz1, hz2⟩ : ∃ z, z = i ∧ z = l.length := ⟨i, rfl, by omega⟩
      subst hz1
      have hil' : ¬ ((z : Int) < (n : Int)) := by omega
      have hnone := hid (find_none (l := l) (id := id) fun x y hy => HNo.out x y (by rw [hz2]; exact (List.getElem?_eq_some_iff.1 hy).1) hy)
      clear hz2
      go_wp2_with fail
      go_ret
      exact ⟨-1, rfl, B.out, .inl ⟨rfl, hnone.out⟩⟩

/-- among those that are over -/
theorem find_calls (w : World) (B T b : Nat) (ov : Value) (t : TbD) (id : Nat) (h : IsTb w B T b ov t) :
    Calls Tryd.prog 41 #[.pointer (some ⟨T, 0, none⟩), .int .u32 (id : Int)] w (FindTo w t.over id) := by
  obtain ⟨a, n, cp, rfl, hn, hcp, hcs⟩ := h.over.cs
  have hlen := h.ok.few.2
  have hb := below_alloc w (.cells #[.int .u32 (id : Int)] 28)
  have c3 := (h.own.below hb).get 3 rfl
  have hk := blk_alloc w [.int .u32 (id : Int)] 28
  have hC := hid (indexfunc_calls (w.alloc (.cells #[.int .u32 (id : Int)] 28)) a n cp t.over w.heap.size id (hcs.below hb) hn (by omega) (hk.get 0 rfl))
  have BB := hid hb
  clear hb hk hcs h
  go_enter Tryd.func41, Tryd.ntmps41
  go_wp2_with (go_at_call 62; go_loud (refine hC.out.mono ?_; rintro e w2 ⟨r, rfl, hb2, hr⟩; have B2 := hid (BB.out.trans (hb2.mono BB.out.size)); have HR := hid hr; clear hb2 hr))
  go_ret
  exact ⟨r, rfl, B2.out, HR.out⟩
end Go.Proofs.YtombndhjoaaaiaaDoor
