/- The walks of layer 16: all of a table as bytes, two lists of jobs held against each other; asked: that the table is whole. -/
import Derived.Test.YtombndhjoaaaiaaDoorJobN
namespace Go.Proofs.YtombndhjoaaaiaaDoor
open Go.RowKit Go.Quad _root_.Quad _root_.Quad.Ink

theorem PT.op2 {w0 W : World} {B g : Nat} {s0 : Value} {l l' : List UInt8} {G : List Nat} {f : Nat} {args : Array Value} (h : PT w0 W B g s0 l G) (hc : ∀ s, IsPen W B g s l false → (∀ k ∈ G, k ∉ penS g s) → Calls Tryd.prog f args W (PenTo W B g s l' false)) :
    Calls Tryd.prog f args W (PTo w0 W B g s0 l' G) := by
  obtain ⟨s, h1, h2, h3, h4⟩ := h
  refine PT.op ⟨s, h1, h2, h3, h4⟩ fun s' h1' => ?_
  have e : s' = s := by
    have a := h1.own
    have b := h1'.own
    unfold Blk at a b
    rw [a] at b
    simpa using b.symm
  subst e
  exact hc _ h1' fun k hk => (h4 k hk).2
/-- a block made since -/
theorem PT.add {w0 W W' : World} {B g : Nat} {s0 : Value} {l : List UInt8} (h : PT w0 W B g s0 l []) (hb : Below W.heap.size W W') (G : List Nat) (hG : ∀ k ∈ G, W.heap.size ≤ k ∧ k < W'.heap.size) : PT w0 W' B g s0 l G := by
  obtain ⟨s, h1, h2, h3, _⟩ := h
  exact ⟨s, h1.below hb, h2.trans (Chg.of_below _ hb), h3, fun k hk => ⟨(hG k hk).2, fun hm => by have := pen_lt h1 hm; have := (hG k hk).1; omega⟩⟩
theorem PT.bel {w w1 W : World} {g : Nat} {l : List UInt8} {G : List Nat} (h : PT w1 W w.heap.size g (.slice none 0 0) l G) (hb : Below w.heap.size w w1) : Below w.heap.size w W := by
  obtain ⟨s, h1, h2, _⟩ := h
  refine hb.trans (h2.below hb.size fun k hk => ?_)
  simp [penS, Value.ownBlock] at hk
  subst hk
  exact h1.ge
theorem PT.far {W : World} {B g : Nat} {s : Value} {l : List UInt8} {bad : Bool} (h : IsPen W B g s l bad) {k : Nat} (hk : k < B) : k ∉ penS g s := fun hm => by
  rcases List.mem_cons.1 hm with rfl | hm
  · have := h.ge; omega
  · have := (World.ownsRow.lt h.row k (by simpa using hm)).1; omega

theorem run_index_reps (w : World) (cs : Array Value) (k : Nat) (hk : k < 8) : (Instr.index 73 (.agg cs) (.int .i64 (k : Int))).run Tryd.prog w = .ok (.agg (cs.extract (k * 6) (k * 6 + 6))) w := by
  have h1 : (0 : Int) ≤ (k : Int) ∧ (k : Int) < 8 := by omega
  simp [Instr.index, asIntOf, run_underlying Tryd.underlying73, part, Tryd.isAgg30, Tryd.sizeOf30, hk, go_sem, Result.andThen]
theorem wpList_index_reps {w : World} {ops : Array Oper} {rest : List Oper} {o : Oper} {ac : Act} {Q : Exit → Act → World → Prop}
    (x i : Operand) (ho : o.op = .index 73 x i) (hw : Region.wanted o (yielded ops ac.tmps) = true) (cs : Array Value) (k : Nat) (hk : k < 8) (hx : ac.eval x = .agg cs) (hi : ac.eval i = .int .i64 (k : Int)) (v : Value) (hv : (.agg (cs.extract (k * 6) (k * 6 + 6)) : Value) = v)
    (hK : wpList Tryd.prog ops Q rest (ac.put o.dst v) w) : wpList Tryd.prog ops Q (o :: rest) ac w := by
  subst hv
  refine wpList_by (fun v w' => v = .agg (cs.extract (k * 6) (k * 6 + 6)) ∧ w' = w) hw ⟨_, _, ?_, rfl, rfl⟩ (by rintro v w' ⟨rfl, rfl⟩; exact hK)
  simp only [execOp, ho, hx, hi, Sem.run_bind, run_index_reps w cs k hk, Result.andThen_ok, Sem.run_pure]
theorem extract_reps (l : List RepD) (k : Nat) (hk : k < l.length) : ((l.flatMap repV).toArray.extract (k * 6) (k * 6 + 6)) = (repV l[k]).toArray := by
  apply Array.ext'
  simp only [Array.toList_extract, List.extract_eq_take_drop]
  apply List.ext_getElem?
  intro i
  rw [List.getElem?_take]
  by_cases hi : i < 6
  · rw [if_pos (by omega), List.getElem?_drop]
    have hr : (repV l[k])[i]? = some (repV l[k])[i] := List.getElem?_eq_getElem (by exact hi)
    rw [flat_get repV 6 (fun _ => rfl) l k i _ (List.getElem?_eq_getElem hk) hi]
  · rw [if_neg (by omega)]
    exact (List.getElem?_eq_none (by show 6 ≤ i; omega)).symm
theorem size_reps : (Tryd.prog.info? 73).map (·.size) = some 48 := by kernel_rfl
theorem row_reps : ∃ d, Tryd.prog.underlying 73 = some d ∧ d.isRow = true := ⟨_, Tryd.underlying73, rfl⟩
theorem reps_len (l : List RepD) (h : ∀ r ∈ l, r.seq < 4294967296 ∧ r.job < 4294967296) : (l.flatMap repB).length ≤ 20 * l.length := by
  induction l with
  | nil => simp
  | cons x l ih =>
    rw [List.flatMap_cons, List.length_append, List.length_cons]
    have h1 := numL_len10 (n := x.seq) (by have := (h x (List.mem_cons_self ..)).1; omega)
    have h2 := numL_len10 (n := x.job) (by have := (h x (List.mem_cons_self ..)).2; omega)
    have h3 : (repB x).length = (numL x.seq).length + (numL x.job).length := by unfold repB; rw [List.length_append]
    have := ih fun j hj => h j (List.mem_cons_of_mem _ hj)
    omega
theorem jobsB_len (l : List JobD) (h : ∀ j ∈ l, JobIn j) (hn : l.length ≤ 64) : (jobsB l).length ≤ 3850 := by
  unfold jobsB
  rw [List.length_append]
  have := numL_len10 (n := l.length) (by omega)
  have := jobs_len l h
  omega
theorem ok_in {t : TbD} (ht : t.Ok) : (∀ j ∈ t.active, JobIn j) ∧ (∀ j ∈ t.over, JobIn j) := by
  refine ⟨fun j hj => ?_, fun j hj => ?_⟩
  · obtain ⟨a, b, c, d, e, f, g⟩ := ht.rng j (.inl hj)
    exact ⟨by have := (ht.ids j hj).2; have := ht.spent; omega, a, b, c, d, e, f, g⟩
  · obtain ⟨a, b, c, d, e, f, g⟩ := ht.rng j (.inr hj)
    exact ⟨by have := (ht.oids j hj).2; have := ht.spent; omega, a, b, c, d, e, f, g⟩
theorem pjobs_new {w1 w2 w3 : World} {B g c : Nat} {s0 : Value} {l : List UInt8} {lj : List JobD} {a : Option Addr} (P2 : PT w1 w2 B g s0 l []) (hb : Below w2.heap.size w2 w3) (hr : RO jobV 6 w3 w2.heap.size 37 (.slice a lj.length c) lj)
    (hin : ∀ j ∈ lj, JobIn j) (hst : ∀ j ∈ lj, j.state < 256) (hn : lj.length ≤ 64) (hl : l.length ≤ 20000) :
    Calls Tryd.prog 49 #[.pointer (some ⟨g, 0, none⟩), .slice a lj.length c] w3 (PTo w1 w3 B g s0 (l ++ jobsB lj) (Value.slice a lj.length c).ownBlock.toList) := by
  have P3 := P2.add hb (Value.slice a lj.length c).ownBlock.toList (fun k hk => RO.ownBlock hr k (by simpa using hk))
  refine P3.op2 fun s hs hG => pjobs_calls w3 B g s l lj a c hs ?_ (fun x hx => hG x.block (by subst hx; simp [Value.ownBlock])) hin hst hn hl
  obtain ⟨a', n', c', e1, _, _, hcs⟩ := hr.cs
  obtain ⟨rfl, rfl, rfl⟩ : a = a' ∧ lj.length = n' ∧ c = c' := by simpa using e1
  exact hcs
def PbRel (w1 : World) (B g : Nat) (L : List UInt8) (l : List RepD) (iv : Value) (wr : World) : Prop := ∃ k : Nat, iv = .int .i64 (k : Int) ∧ k ≤ 8 ∧ PT w1 wr B g (.slice none 0 0) (L ++ (l.take k).flatMap repB) []

set_option maxRecDepth 100000 in
set_option maxHeartbeats 20000000 in
theorem jbytes_calls (w : World) (B0 T b : Nat) (ov : Value) (t : TbD) (h : IsTb w B0 T b ov t) : Calls Tryd.prog 20 #[.pointer (some ⟨T, 0, none⟩)] w (RetB w.heap.size w (bytesT t)) := by
  have H := hid h
  have Ok := hid h.ok
  have In := hid (ok_in h.ok)
  have hl8 : t.last.length = 8 := h.ok.last
  have hsp := h.ok.spent
  have hspI : (t.spent : Int) ≤ 4294967295 := by omega
  clear h
  go_enter Tryd.func20, Tryd.ntmps20
  go_upto_region 4 with (go_at_call 47; go_loud (refine (new_calls w).mono ?_; rintro e w1 ⟨g, rfl, hp, hg, hb⟩; have B1 := hid hb; have P1 := hid (PT.start hp); have HG := hid hg; clear hp hb hg))
  have H1 := hid (H.out.below B1.out)
  have c1 := H1.out.own.get 1 rfl
  have D1 := hid (P1.out.num t.spent hsp (by simp))
  go_upto_region 5 with (go_at_call 48; go_loud (refine D1.out.mono ?_; rintro e w2 ⟨rfl, hp, _⟩; rw [List.nil_append] at hp; have P2 := hid hp; clear hp))
  clear D1 P1 H1 c1
  have B2 := hid (P2.out.bel B1.out)
  have H2 := hid (H.out.below B2.out)
  have A2 := hid (active_calls w2 B0 T b ov t H2.out)
  have few := Ok.out.few
  have fa : (t.active.length : Int) ≤ 64 := by omega
  have fo : (t.over.length : Int) ≤ 64 := by omega
  have lsp := numL_len10 (n := t.spent) (by omega)
  have lac := jobsB_len t.active In.out.1 few.1
  have lov := jobsB_len t.over In.out.2 few.2
  have Ls := hid lsp
  have La := hid lac
  have Lo := hid lov
  have Few := hid few
  clear lsp lac lov few
  go_upto_region 6 with (first
    | (go_at_call 17; go_loud (refine A2.out.mono ?_; rintro e w3 ⟨va, rfl, hr, hb⟩; obtain ⟨aa, ca, rfl⟩ := row_slice hr; have C3 := hid (pjobs_new P2.out hb hr In.out.1 (fun j hj => by have := Ok.out.st j hj; omega) Few.out.1 (by have := Ls.out; omega)); clear hr hb))
    | (go_at_call 49; go_loud (refine C3.out.mono ?_; rintro e w4 ⟨rfl, hp, _⟩; have P4 := hid (hp.mono (G' := []) (by simp)); clear hp)))
  clear C3 A2 P2 H2 B2
  have B4 := hid (P4.out.bel B1.out)
  have H4 := hid (H.out.below B4.out)
  obtain ⟨ao, no, co, rfl, hno, _, hcso⟩ := H4.out.over.cs
  subst hno
  have c3 := H4.out.own.get 3 rfl
  have HCo := hid hcso
  have C4 := hid (P4.out.op2 fun s hs _ => pjobs_calls w4 w.heap.size g s (numL t.spent ++ jobsB t.active) t.over ao co hs HCo.out (fun x hx => PT.far hs (by subst hx; exact ((H.out.over.own (k := x.block) (by simp [Value.ownBlock])).2.1))) In.out.2 (fun j hj => by have := Ok.out.ost j hj; omega) Few.out.2 (by rw [List.length_append]; have := Ls.out; have := La.out; omega))
  clear hcso
  go_upto_region 7 with (go_at_call 49; go_loud (refine C4.out.mono ?_; rintro e w5 ⟨rfl, hp, _⟩; have P5 := hid (hp.mono (G' := []) (by simp)); clear hp))
  clear C4 HCo P4 c3
  have B5 := hid (P5.out.bel B1.out)
  have H5 := hid (H.out.below B5.out)
  have hlen : (t.last.flatMap repV).length = 48 := by rw [flat_length repV 6 (fun _ => rfl), hl8]
  have HR := hid (show w5.rangeAt T 4 (t.last.flatMap repV) from by
    have := blk_part H5.out.own 4 48
    rw [show ((tbV t b (.slice ao t.over.length co)).drop 4).take 48 = t.last.flatMap repV from by
      show (t.last.flatMap repV).take 48 = _
      rw [List.take_of_length_le (by omega)]] at this
    exact this)
  obtain ⟨L, hL⟩ : ∃ L, numL t.spent ++ jobsB t.active ++ jobsB t.over = L := ⟨_, rfl⟩
  rw [hL] at P5
  have HL := hid hL
  have hLl := hid (show L.length ≤ 8000 from by rw [← hL, List.length_append, List.length_append]; have := Ls.out; have := La.out; have := Lo.out; omega)
  have HS := hid (size_reps.trans (by rw [hlen]) : (Tryd.prog.info? 73).map (·.size) = some (t.last.flatMap repV).length)
  have Rok := hid (show ∀ r ∈ t.last, r.seq < 4294967296 ∧ r.job < 4294967296 from fun r hr => ⟨(Ok.out.lok r hr).seq, (Ok.out.lok r hr).job⟩)
  clear hL
  go_upto_region 8 with (refine wpList_load_row6 (o := ⟨some 29, _, _, _, _, _⟩) 73 (.tmp 28) rfl rfl T 4 (t.last.flatMap repV) rfl HR.out row_reps HS.out ?_)
  go_loopw [30] (fun iv wr => PbRel w1 w.heap.size g L t.last iv wr) (fun iv _ => 8 - (intOf iv).toNat)
  case atStart => exact ⟨0, rfl, Nat.zero_le _, by rw [List.take_zero, List.flatMap_nil, List.append_nil]; exact P5.out⟩
  case round =>
    clear P5 HR HS H5 B5
    obtain ⟨k, rfl, hk, hp⟩ := hrel
    obtain ⟨L2, hL2⟩ : ∃ L2, L ++ (t.last.take k).flatMap repB = L2 := ⟨_, rfl⟩
    rw [hL2] at hp
    have P := hid hp
    have HL2 := hid hL2
    have hL2l := hid (show L2.length ≤ 9000 from by
      rw [← hL2, List.length_append]
      have h2 := reps_len (t.last.take k) fun j hj => Rok.out j (List.mem_of_mem_take hj)
      rw [List.length_take] at h2
      have := hLl.out
      omega)
    clear hp hL2
    by_cases hkl : k < 8
    · have hkl' : (k : Int) < 8 := by omega
      obtain ⟨r, hr⟩ : ∃ r, t.last[k]'(by omega) = r := ⟨_, rfl⟩
      have hrm : r ∈ t.last := hr ▸ List.getElem_mem (by omega)
      have HX := hid (show (.agg ((t.last.flatMap repV).toArray.extract (k * 6) (k * 6 + 6)) : Value) = .agg (repV r).toArray from by rw [extract_reps t.last k (by omega), hr])
      have HT := hid (show t.last.take (k + 1) = t.last.take k ++ [r] from by rw [List.take_succ_eq_append_getElem (by omega), hr])
      have Hr := hid (Rok.out r hrm)
      have r1 : (r.seq : Int) ≤ 4294967295 := by have := (Rok.out r hrm).1; omega
      have r3 : (r.job : Int) ≤ 4294967295 := by have := (Rok.out r hrm).2; omega
      have HKL := hid hkl
      clear hr hrm
      go_upto_region 10 with (first | (refine wpList_index_reps (o := ⟨some 32, _, _, _, _, _⟩) (.tmp 29) (.tmp 30) rfl rfl (t.last.flatMap repV).toArray k HKL.out rfl rfl _ HX.out ?_) | (refine wpListQ_alloc (o := ⟨some 5, _, _, _, _, _⟩) 30 rfl rfl zrep 6 info_rep ?_) | (refine wpListQ_store_new (o := ⟨none, _, 0, _, _, _⟩) rfl 30 (.tmp 5) (.tmp 32) rfl zrep (repV r).toArray rfl rfl size_rep rfl (all_oneCell_toArray (repV_one _)) ?_))
      obtain ⟨z, hz⟩ : ∃ z, wr.heap.size = z := ⟨_, rfl⟩
      have P1 := hid (show PT w1 (wr.alloc (.cells (repV r).toArray 30)) w.heap.size g (.slice none 0 0) L2 [z] from by rw [← hz]; exact P.out.mk1 _)
      have K1 := hid (show Blk (wr.alloc (.cells (repV r).toArray 30)) z (repV r) 30 from by rw [← hz]; exact blk_alloc wr (repV r) 30)
      rw [hz]
      generalize (wr.alloc (.cells (repV r).toArray 30)) = x1 at P1 K1 ⊢
      clear hz P HX hkl
      have c1 := K1.out.get 1 rfl
      have D1 := hid (P1.out.num r.seq Hr.out.1 (by have := hL2l.out; omega))
      go_upto_region 11 with (go_at_call 48; go_loud (refine D1.out.mono ?_; rintro e x2 ⟨rfl, hp, hg⟩; have P2 := hid hp; have K2 := hid (blk_same K1.out (hg z (by simp))); clear hp hg))
      clear D1 P1 K1 c1
      have c3 := K2.out.get 3 rfl
      have l1 := numL_len10 (n := r.seq) (by have := Hr.out.1; omega)
      have D2 := hid (P2.out.num r.job Hr.out.2 (by rw [List.length_append]; have := hL2l.out; omega))
      clear l1
      go_wp2_with (go_at_call 48; go_loud (refine D2.out.mono ?_; rintro e x3 ⟨rfl, hp, hg⟩; have P3 := hid hp; clear hp hg))
      have hkl := HKL.out
      have R : PbRel w1 w.heap.size g L t.last (.int .i64 ((k : Int) + 1)) x3 := ⟨k + 1, by simp, hkl, by
        rw [HT.out, List.flatMap_append, ← List.append_assoc, HL2.out]
        have := P3.out.mono (G' := []) (by simp)
        rw [show [r].flatMap repB = repB r from by simp]
        unfold repB
        simpa only [List.append_assoc] using this⟩
      refine ⟨?_, ?_⟩
      · first | exact R | ((repeat apply Exists.intro); refine ⟨R, ?_⟩; and_intros <;> rfl)
      · simp [intOf]
        omega
    · have hkl' : ¬ ((k : Int) < 8) := by omega
      obtain rfl : k = 8 := by omega
      have hT : t.last.take 8 = t.last := List.take_of_length_le (by omega)
      have HE := hid (show L2 = bytesT t from by rw [← HL2.out, hT, ← HL.out]; rfl)
      have BW := hid (P.out.bel B1.out)
      obtain ⟨s, hs, _⟩ := P.out
      have Db := hid (bytes_any wr w.heap.size g s L2 false hs (by have := hL2l.out; omega))
      clear hs hkl hT
      go_wp2_with (go_at_call 50; go_loud (refine Db.out.mono ?_; rintro e w9 ⟨v, rfl, ho, hb⟩; have O9 := hid ho; have B9 := hid hb; clear ho hb))
      go_ret
      refine ⟨v, rfl, ?_, BW.out.trans (B9.out.mono BW.out.size)⟩
      have := O9.out
      rw [show want1 false L2 = bytesT t from HE.out] at this
      exact this.base BW.out.size
end Go.Proofs.YtombndhjoaaaiaaDoor
