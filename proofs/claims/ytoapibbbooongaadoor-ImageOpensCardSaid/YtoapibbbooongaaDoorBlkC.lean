/- The walks of layer 6: a block is got. -/
import Derived.Test.YtoapibbbooongaaDoorBlkB
import Derived.Stop.BytesEq
namespace Go.Proofs.YtoapibbbooongaaDoor
open Go.RowKit Go.Quad _root_.Quad _root_.Quad.Slab

/-- what is got: the block's fields, its bytes the caller's own -/
def BGetTo (w : World) (r : BlkD × Nat) (e : Ending) (w' : World) : Prop :=
  ∃ a n c, e = .returned (.tuple #[.agg #[.int .u8 (r.1.kind : Int), .int .u32 (r.1.epoch : Int), .int .u32 (r.1.a : Int), .int .u32 (r.1.b : Int), .slice a n c], .int .i64 (r.2 : Int)]) ∧ r.1.data.length = n ∧ OB w' w.heap.size 5 (.slice a n c) r.1.data ∧ Below w.heap.size w w'
theorem bget_no {w w' : World} {n : Nat} {r : BlkD × Nat} (hb : Below w.heap.size w w') (hr : r = (blkZ, n)) : BGetTo w r (.returned (.tuple #[.agg [.int .u8 0, .int .u32 0, .int .u32 0, .int .u32 0, .slice none 0 0].toArray, .int .i64 (n : Int)])) w' := by
  subst hr
  exact ⟨none, 0, 0, rfl, rfl, World.ownsRow_nil _ _ _ _, hb⟩
theorem ob_128 {w : World} {B : Nat} {v : Value} {p : List UInt8} (h : OB w B 5 v p) (hp : p.length = 128) : ∃ b c, v = .slice (some ⟨b, 0, none⟩) 128 c ∧ BS w (some ⟨b, 0, none⟩) c p ∧ B ≤ b ∧ b < w.heap.size ∧ 128 ≤ c := by
  obtain ⟨a, c, rfl, hbs, hof⟩ := h.bs
  obtain ⟨b, off, rfl, _⟩ := CS.at hbs (by simp [hp])
  obtain ⟨h1, _, h3, h4⟩ := hof _ rfl
  dsimp only at h1 h3 h4
  subst h1
  exact ⟨b, c, by rw [hp], hbs, h3, h4, by have := hbs.fit'; omega⟩
theorem get4_n (a : Option Addr) (n c : Nat) (p : List UInt8) (w : World) (h : BS w a c p) (hn : p.length = n) (h4 : 4 ≤ n) :
    Calls Tryd.prog 83 #[.slice a n c] w fun e w' => e = .returned (.int .u32 (get4L p : Int)) ∧ Below w.heap.size w w' := get4_calls a n c p w h hn (by omega)
theorem under_arr : Tryd.prog.underlying 113 = some (.array 128 5) := by kernel_rfl
theorem sz_u8 (w : World) : (sizeOf 5).run Tryd.prog w = .ok 1 w := by
  obtain ⟨i, hi, _, hz, _⟩ := info_parts info_u8
  simp [sizeOf, typeInfo, hi, hz]
theorem readL_len {s : Sl} {i : Int} (h : Ok s) (h0 : (readL s i).2 = 0) : (readL s i).1.length = 128 := by
  have hh : hasL s i 0 = 0 := by
    unfold readL at h0
    split at h0
    · rename_i hn; exact absurd h0 hn
    · rename_i hn; omega
  have hin := hasL_in hh
  unfold readL
  rw [if_neg (by rw [hh]; simp)]
  unfold seenL
  have key : ∀ (l : List (Nat × Bytes)) (q : Bytes), (∀ x ∈ l, x.2.length = 128) → q.length = 128 → (l.foldl (fun p w => if w.1 = i.toNat then w.2 else p) q).length = 128 := by
    intro l
    induction l with
    | nil => intro q _ hq; exact hq
    | cons x l ih =>
      intro q hl hq
      rw [List.foldl_cons]
      apply ih _ (fun y hy => hl y (List.mem_cons_of_mem _ hy))
      split
      · exact hl x (List.mem_cons_self ..)
      · exact hq
  apply key _ _ (fun x hx => (h.wsec x hx).1)
  apply h.sec
  rw [List.getD_eq_getElem?_getD, List.getElem?_eq_getElem (by omega)]
  exact List.getElem_mem _
theorem bs_cell {w : World} {b c : Nat} {p : List UInt8} (h : BS w (some ⟨b, 0, none⟩) c p) (i : Nat) (hi : i < p.length) : w.cell? ⟨b, i, none⟩ = some (.int .u8 ((p.getD i 0).toNat : Int)) := by
  obtain ⟨b', off, e, hc⟩ := h.at (by omega)
  cases e
  have := hc i hi
  rw [Nat.zero_add] at this
  rw [this, List.getD_eq_getElem?_getD, List.getElem?_eq_getElem hi]
  rfl
theorem wpList_arrptr {w : World} {ops : Array Oper} {rest : List Oper} {o : Oper} {ac : Act} {Q : Exit → Act → World → Prop}
    (x : Operand) (ho : o.op = .sliceToArrayPointer 113 x) (hw : Region.wanted o (yielded ops ac.tmps) = true) (a : Option Addr) (n c : Nat) (hx : ac.eval x = .slice a n c) (hn : 128 ≤ n)
    (hK : wpList Tryd.prog ops Q rest (ac.put o.dst (.pointer a)) w) : wpList Tryd.prog ops Q (o :: rest) ac w := by
  refine wpList_by (fun v w' => v = .pointer a ∧ w' = w) hw ⟨_, _, ?_, rfl, rfl⟩ (by rintro v w' ⟨rfl, rfl⟩; exact hK)
  simp only [execOp, ho, hx, Instr.arrayAt, Sem.run_bind, run_underlying under_arr, Result.andThen_ok]
  rw [if_neg (by omega)]
  rfl
theorem wpList_eqlB {P : Program} {w : World} {ops : Array Oper} {rest : List Oper} {o : Oper} {ac : Act} {Q : Exit → Act → World → Prop}
    (t t' : TypeId) (x y : Operand) (ho : o.op = .binOp .eql t x y t') (hw : Region.wanted o (yielded ops ac.tmps) = true) (u v : Value) (hx : ac.eval x = u) (hy : ac.eval y = v) (b : Bool)
    (hg : (eqGuard .eql t x y u v).run P w = .ok () w) (hr : (binOp .eql t u v).run P w = .ok (.bool b) w) (hK : wpList P ops Q rest (ac.put o.dst (.bool b)) w) : wpList P ops Q (o :: rest) ac w := by
  refine wpList_by (fun v w' => v = .bool b ∧ w' = w) hw ⟨_, _, ?_, rfl, rfl⟩ (by rintro v w' ⟨rfl, rfl⟩; exact hK)
  simp only [execOp, ho, hx, hy, Sem.run_bind, hg, hr, Result.andThen_ok, Sem.run_pure]
def SB (w : World) (b : Nat) (a : Option Addr) (c : Nat) (l : List UInt8) : Prop := BS w a c l ∧ ∀ y, a = some y → y.block = b
theorem SB.chg {S : List Nat} {w w' : World} {b c : Nat} {a : Option Addr} {l : List UInt8} (h : SB w b a c l) (hc : Chg S w.drew w') (hb : b ∉ S) : BS w' a c l :=
  cs_chg (h.1.below (below_drew _)) hc (fun y hy hm => hb (by rw [← h.2 y hy]; exact hm))
theorem opOk_cutb {o : Oper} {ρ : Operand → Value} {w W : World} {K : Value → World → Prop} (x : Operand) (lo hi' : Option Operand) (ho : o.op = Op.slice 33 x lo hi' none)
    {b n cap : Nat} {l : List UInt8} (hx : ρ x = .slice (some ⟨b, 0, none⟩) n cap) (h : BS W (some ⟨b, 0, none⟩) cap l) (i j m : Nat)
    (hlo : lo.map ρ = some (.int .i64 (i : Int)) ∨ (lo = none ∧ i = 0)) (hhi : hi'.map ρ = some (.int .i64 (j : Int)) ∨ (hi' = none ∧ j = n)) (hij : i ≤ j) (hj : j ≤ cap) (hm : j - i = m)
    (hK : ∀ a', SB W b a' (cap - i) ((l.drop i).take m) → K (.slice a' m (cap - i)) w) : OpOk Tryd.prog o ρ w K := by
  subst hm
  obtain ⟨info, h1, _, h3, _⟩ := info_parts info_u8
  have hr := run_slice_cut0 (P := Tryd.prog) (w := w) 33 5 info 1 under_bytes h1 h3 (a := some ⟨b, 0, none⟩) (n := n) (cap := cap) (lo.map ρ) (hi'.map ρ) i j
    (hlo.imp id fun ⟨h1, h2⟩ => ⟨by rw [h1]; rfl, h2⟩) (hhi.imp id fun ⟨h1, h2⟩ => ⟨by rw [h1]; rfl, h2⟩) hij hj
  refine opOk_run (v := .slice (if cap = i then some ⟨b, 0, none⟩ else (some (⟨b, 0, none⟩ : Addr)).map (·.add (i * 1))) (j - i) (cap - i)) (w' := w) ?_ (hK _ ⟨BS.cut j (CS.cut h i (by omega) (by decide)), ?_⟩)
  · simp only [execOp, ho, hx, Sem.run_bind, Result.andThen, Sem.run_pure]
    simp [hr, Instr.sliceAt, run_underlying under_bytes, Result.andThen]
  · intro y hy
    split at hy
    · cases hy; rfl
    · simp only [Option.map_some, Option.some.injEq] at hy
      subst hy
      unfold Addr.add
      split <;> rfl
def zarr : Array Value := ((List.replicate 128 (0 : UInt8)).map u8v).toArray
theorem built_arr : Tryd.prog.built 113 [] = some zarr := by kernel_rfl
theorem size_arr : (Tryd.prog.info? 113).map (·.size) = some 128 := by kernel_rfl
theorem row_arr : ∃ d, Tryd.prog.underlying 113 = some d ∧ d.isRow = true := ⟨_, under_arr, rfl⟩
theorem arr_guard (x y : Operand) (xs ys : Array Value) (w : World) : (eqGuard .eql 113 x y (.agg xs) (.agg ys)).run Tryd.prog w = .ok () w := run_eqGuard_agg w .eql _ x y xs ys (by kernel_rfl)
theorem arr_eql (p : List UInt8) (hp : p.length = 128) (w : World) : (binOp .eql 113 (.agg (p.map u8v).toArray) (.agg zarr)).run Tryd.prog w = .ok (.bool (p == List.replicate 128 0)) w :=
  run_eql_bytes w 113 5 128 under_arr under_u8 sz_u8 p (List.replicate 128 0) hp (by simp)
theorem bs_range {w : World} {b c : Nat} {p : List UInt8} (h : BS w (some ⟨b, 0, none⟩) c p) : w.rangeAt b 0 (p.map u8v) := fun j v hv => by
  obtain ⟨b', off, e, hc⟩ := CS.at h (by have := (List.getElem?_eq_some_iff.1 hv).1; omega)
  cases e
  exact hc j v hv
theorem run_u8_at (w : World) (g i : Nat) (v : Value) (h : w.cell? ⟨g, i, none⟩ = some v) : (Instr.loadAt 5 (.pointer (some ⟨g, i, none⟩))).run Tryd.prog w = .ok v w := by go_simp

set_option maxRecDepth 100000 in
set_option maxHeartbeats 4000000 in
theorem bget_calls (w : World) (B g d : Nat) (wv : Value) (s : Sl) (i : Int) (h : IsSlab w B g d wv s) (hi : -9223372036854775808 ≤ i ∧ i ≤ 9223372036854775807) (hq : Laid w) :
    Calls Tryd.prog 47 #[.pointer (some ⟨g, 0, none⟩), .int .i64 i] w (BGetTo w (getB s i)) := by
  have HR := hid (fun W hW => read_any W B g d wv s i (h.below hW) hi)
  have HQ := hid hq
  have HOK := hid h.ok
  obtain ⟨z, hz⟩ : ∃ z, w.heap.size = z := ⟨_, rfl⟩
  have HZ := hid (show Blk (w.alloc (.cells #[.int .u8 0, .int .u32 0, .int .u32 0, .int .u32 0, .slice none 0 0] 96)) z [.int .u8 0, .int .u32 0, .int .u32 0, .int .u32 0, .slice none 0 0] 96 from by rw [← hz]; exact blk_alloc w [.int .u8 0, .int .u32 0, .int .u32 0, .int .u32 0, .slice none 0 0] 96)
  have Hz := hid hz
  have H0 := hid (below_alloc w (.cells #[.int .u8 0, .int .u32 0, .int .u32 0, .int .u32 0, .slice none 0 0] 96))
  have HS1 := hid (show (w.alloc (.cells #[.int .u8 0, .int .u32 0, .int .u32 0, .int .u32 0, .slice none 0 0] 96)).heap.size = z + 1 from by rw [← hz]; simp)
  obtain ⟨rr, hrr⟩ : ∃ rr, (readL s i).2 = rr := ⟨_, rfl⟩
  obtain ⟨p, hp⟩ : ∃ p, (readL s i).1 = p := ⟨_, rfl⟩
  have Hr := hid hrr
  have Hp := hid hp
  clear h hq hrr hp
  go_enter Tryd.func47, Tryd.ntmps47
  go_wp2_with fail
  refine (HR.out _ H0.out).mono ?_
  rintro e w1 ⟨v9, rfl, ho, hb1⟩

  have BB := hid (H0.out.trans (hb1.mono H0.out.size))
  have ZB := hid (HZ.out.below hb1)
  rw [Hr.out]
  rw [Hp.out, HS1.out] at ho
  have HO := hid ho
  clear hb1 ho HZ H0 HR hz
  by_cases h0 : rr = 0
  case' neg =>
    have h0' : ((rr : Int) != 0) = true := by simp; omega
    have HG := hid (show getB s i = (blkZ, rr) from by unfold getB; rw [Hr.out, if_pos h0])
    go_upto_region 3 with fail
    go_step
    repeat (first | (refine wpList_store_blk (o := ⟨none, _, 0, _, _, _⟩) 96 (.tmp 4) (.tmp 18) rfl rfl z [.int .u8 0, .int .u32 0, .int .u32 0, .int .u32 0, .slice none 0 0] [.int .u8 0, .int .u32 0, .int .u32 0, .int .u32 0, .slice none 0 0] 96 rfl rfl ZB.out rfl (by kernel_rfl) (by simp [Value.oneCell']) ?_; intro wE hZE hCE) | go_step)
    refine bodyPost_ret (v := .tuple #[.agg [.int .u8 0, .int .u32 0, .int .u32 0, .int .u32 0, .slice none 0 0].toArray, .int .i64 (rr : Int)]) (results_blk2 (fn := Tryd.f47) (p := 4) (q := 5) (ty := 96) rfl _ z [.int .u8 0, .int .u32 0, .int .u32 0, .int .u32 0, .slice none 0 0] 96 (.int .i64 (rr : Int)) rfl rfl hZE ⟨_, Tryd.underlying96, rfl⟩ (by kernel_rfl)) rfl ?_
    exact bget_no (BB.out.trans (hCE.below BB.out.size (by simp; exact Nat.le_of_eq Hz.out))) HG.out
  subst h0
  have PL := hid (show p.length = 128 from by rw [← Hp.out]; exact readL_len HOK.out Hr.out)
  have HG0 := hid (show getB s i = readB p from by unfold getB; rw [Hr.out, Hp.out]; rfl)
  obtain ⟨b, c9, e9, hbs, hzb, hbl, hc9⟩ := ob_128 HO.out PL.out
  subst e9
  have PB := hid hbs
  have PC := hid hc9
  have BZ := hid (show b ∉ [z] from by simp; omega)
  have BZ0 := hid (show b ∉ ([] : List Nat) from by simp)
  have ZL := hid ZB.out.lt
  clear hbs hzb hbl hc9 HO
  go_upto_region 4 with fail
  obtain ⟨eb, heb⟩ : ∃ eb, (p == List.replicate 128 0) = eb := ⟨_, rfl⟩
  have HEB := hid heb
  clear heb
  go_upto_if 20 with (first | (refine wpList_arrptr (o := ⟨some 22, _, _, _, _, _⟩) (.tmp 21) rfl rfl (some ⟨b, 0, none⟩) 128 c9 rfl (Nat.le_refl _) ?_) | (refine wpListQ_load_row (o := ⟨some 23, _, _, _, _, _⟩) rfl 113 (.tmp 22) rfl b 0 (p.map u8v) rfl (bs_range PB.out) row_arr (by rw [List.length_map, PL.out]; exact size_arr) ?_) | (refine wpListQ_build (o := ⟨some 24, _, _, _, _, _⟩) 113 #[] rfl rfl zarr built_arr ?_) | (refine wpList_eqlB (o := ⟨some 25, _, _, _, _, _⟩) 113 113 (.tmp 23) (.tmp 24) rfl rfl (.agg (p.map u8v).toArray) (.agg zarr) rfl rfl eb (arr_guard _ _ _ _ _) (by rw [← HEB.out]; exact arr_eql p PL.out _) ?_))
  cases eb
  case' true =>
    have HG := hid (show getB s i = (blkZ, 6) from by rw [HG0.out]; unfold readB; rw [if_pos (by simpa using HEB.out)])
    go_upto_region 5 with fail
    go_step
    repeat (first | (refine wpList_store_blk (o := ⟨none, _, 0, _, _, _⟩) 96 (.tmp 4) (.tmp 26) rfl rfl z [.int .u8 0, .int .u32 0, .int .u32 0, .int .u32 0, .slice none 0 0] [.int .u8 0, .int .u32 0, .int .u32 0, .int .u32 0, .slice none 0 0] 96 rfl rfl ZB.out rfl (by kernel_rfl) (by simp [Value.oneCell']) ?_; intro wE hZE hCE) | go_step)
    refine bodyPost_ret (v := .tuple #[.agg [.int .u8 0, .int .u32 0, .int .u32 0, .int .u32 0, .slice none 0 0].toArray, .int .i64 6]) (results_blk2 (fn := Tryd.f47) (p := 4) (q := 5) (ty := 96) rfl _ z [.int .u8 0, .int .u32 0, .int .u32 0, .int .u32 0, .slice none 0 0] 96 (.int .i64 6) rfl rfl hZE ⟨_, Tryd.underlying96, rfl⟩ (by kernel_rfl)) rfl ?_
    exact bget_no (BB.out.trans (hCE.below BB.out.size (by simp; exact Nat.le_of_eq Hz.out))) HG.out
  have HNZ := hid (show p ≠ List.replicate 128 0 from by simpa using HEB.out)
  clear HEB
  obtain ⟨bb, hbb⟩ : ∃ bb, (((get4 p 124 : Nat) : Int) != ((crc (p.take 124)).toNat : Int)) = bb := ⟨_, rfl⟩
  have HBB := hid hbb
  clear hbb
  go_upto_region 6 with fail
  refine wp_region_chg 12 7 [] (fun idx v w' => match idx with
    | 0 | 3 => v = .slice (some ⟨b, 0, none⟩) 128 c9
    | 1 => ∃ a c, v = .slice a 4 c ∧ SB w1 b a c (p.drop 124)
    | 2 => v = .int .u32 (get4 p 124 : Int)
    | 4 => v = .slice (some ⟨b, 0, none⟩) 124 c9
    | 5 => v = .int .u32 ((crc (p.take 124)).toNat : Int)
    | 6 => v = .bool bb
    | _ => True) (by kernel_rfl) (by kernel_rfl) (by kernel_rfl) ?_ ?_ ?_ ?_
  · intro j v wx wy hR hb
    match j, hR with
    | 0, hR | 3, hR | 1, hR | 2, hR | 4, hR | 5, hR | 6, hR => exact hR
    | _ + 7, _ => trivial
  · intro j v wx wy hne hR hb
    match j, hR with
    | 0, hR | 3, hR | 1, hR | 2, hR | 4, hR | 5, hR | 6, hR => exact hR
    | _ + 7, _ => trivial
  · refine ⟨?_, ?_, ?_, ?_, ?_, ?_, ?_, trivial⟩
    all_goals intro ρ wx hE hc hg hf
    · intro h0; exact opOk_move _ rfl ⟨Below.refl _ _, h0⟩
    · intro (h0 : ρ (.tmp 28) = .slice (some ⟨b, 0, none⟩) 128 c9)
      exact opOk_cutb (.tmp 28) (some (.const (.int .i64 124))) none rfl h0 PB.out 124 128 4 (.inl (by simp [hc])) (.inr ⟨rfl, rfl⟩) (by omega) (by have := PC.out; omega) rfl fun a' ha => ⟨Below.refl _ _, a', _, rfl, by rwa [List.take_of_length_le (by rw [List.length_drop, PL.out]; omega)] at ha⟩
    · intro ⟨a0, c0, (h0 : ρ (.tmp 29) = .slice a0 4 c0), hb0⟩
      have hE1 : Chg [] w1.drew wx := hE
      refine opOk_call (f := 83) (args := #[.slice a0 4 c0]) (by go_simp) ?_
      refine (get4_n a0 4 c0 (p.drop 124) _ (hb0.chg hE1 BZ0.out) (by rw [List.length_drop, PL.out]) (by omega)).mono ?_
      rintro e wy ⟨rfl, hbel⟩
      exact ⟨_, rfl, hbel, rfl⟩
    · intro h0; exact opOk_move _ rfl ⟨Below.refl _ _, h0⟩
    · intro (h0 : ρ (.tmp 31) = .slice (some ⟨b, 0, none⟩) 128 c9)
      exact opOk_bytes_head _ (.tmp 31) (.const (.int .i64 124)) rfl 5 under_bytes info_u8 h0 124 (hc _) (by have := PC.out; omega) ⟨Below.refl _ _, rfl⟩
    · intro (h0 : ρ (.tmp 32) = .slice (some ⟨b, 0, none⟩) 124 c9)
      have hE1 : Chg [] w1.drew wx := hE
      refine opOk_call (f := 84) (args := #[.slice (some ⟨b, 0, none⟩) 124 c9]) (by go_simp) ?_
      refine (sum_n _ c9 124 (p.take 124) _ ((SB.chg ⟨PB.out, fun y hy => by cases hy; rfl⟩ hE1 BZ0.out).take 124) ((HQ.out.below BB.out HQ.out.1).below ((below_drew w1).trans (hE1.below0.mono (by simp))) (Nat.lt_of_lt_of_le HQ.out.1 BB.out.size)) (by rw [List.length_take, PL.out]; rfl)).mono ?_
      rintro e wy ⟨rfl, rfl⟩
      exact ⟨_, rfl, Below.refl _ _, rfl⟩
    · intro (h0 : ρ (.tmp 30) = .int .u32 (get4 p 124 : Int)) (h1 : ρ (.tmp 33) = .int .u32 ((crc (p.take 124)).toNat : Int))
      have hb1 := HBB.out
      exact opOk_run (v := .bool bb) (w' := wx) (by go_simp) ⟨Below.refl _ _, rfl⟩
  · intro wz hE
    rintro _ rfl _ _ _ rfl _ rfl _ rfl _ rfl _ rfl
    simp only [PutLast, Act.put, List.setIfInBounds_toArray, List.set_cons_succ, List.set_cons_zero]
    refine opOk_assignV (.tmp 34) (.bool bb) rfl rfl ?_
    have hw2 : Below w1.heap.size w1 wz := (below_drew _).trans ((show Chg [] w1.drew wz from hE).below0.mono (by simp))
    replace BB := hid (BB.out.trans (hw2.mono BB.out.size))
    replace ZB := hid (ZB.out.below hw2)
    replace PB := hid (PB.out.below hw2)
    replace ZL := hid ZB.out.lt
    clear hw2 hE
    cases bb
    case' true =>
      have HG := hid (show getB s i = (blkZ, 5) from by rw [HG0.out]; unfold readB; rw [if_neg HNZ.out, if_pos (by have := HBB.out; simp at this; omega)])
      go_upto_region 7 with fail
      go_step
      repeat (first | (refine wpList_store_blk (o := ⟨none, _, 0, _, _, _⟩) 96 (.tmp 4) (.tmp 35) rfl rfl z [.int .u8 0, .int .u32 0, .int .u32 0, .int .u32 0, .slice none 0 0] [.int .u8 0, .int .u32 0, .int .u32 0, .int .u32 0, .slice none 0 0] 96 rfl rfl ZB.out rfl (by kernel_rfl) (by simp [Value.oneCell']) ?_; intro wE hZE hCE) | go_step)
      refine bodyPost_ret (v := .tuple #[.agg [.int .u8 0, .int .u32 0, .int .u32 0, .int .u32 0, .slice none 0 0].toArray, .int .i64 5]) (results_blk2 (fn := Tryd.f47) (p := 4) (q := 5) (ty := 96) rfl _ z [.int .u8 0, .int .u32 0, .int .u32 0, .int .u32 0, .slice none 0 0] 96 (.int .i64 5) rfl rfl hZE ⟨_, Tryd.underlying96, rfl⟩ (by kernel_rfl)) rfl ?_
      exact bget_no (BB.out.trans (hCE.below BB.out.size (by simp; exact Nat.le_of_eq Hz.out))) HG.out
    have HSM := hid (show get4 p 124 = (crc (p.take 124)).toNat from by have := HBB.out; simp at this; omega)
    clear HBB
    obtain ⟨k0, hk0⟩ : ∃ k0, (p.getD 0 0).toNat = k0 := ⟨_, rfl⟩
    obtain ⟨n, hn⟩ : ∃ n, nB p = n := ⟨_, rfl⟩
    have NB := hid hn
    have K0 := hid hk0
    have hn1 : (p.getD 1 0).toNat = n := hn
    have hnb : (n : Int) ≤ 255 := by have := (p.getD 1 0).toNat_lt; omega
    have hkb : (k0 : Int) ≤ 255 := by have := (p.getD 0 0).toNat_lt; omega
    have d0 := bs_cell PB.out 0 (by rw [PL.out]; omega)
    have d1 := bs_cell PB.out 1 (by rw [PL.out]; omega)
    rw [hk0] at d0
    rw [hn1] at d1
    clear hk0 hn hn1
    by_cases hk : k0 = 0
    case' pos =>
      have hk' : ((k0 : Int) == 0) = true := by simp; exact hk
      have HG := hid (show getB s i = (blkZ, 4) from by rw [HG0.out]; unfold readB; rw [if_neg HNZ.out, if_neg (by simp [HSM.out]), if_pos (.inl (K0.out.trans hk))])
      clear hk
      go_upto_region 10 with fail
      go_step
      repeat (first | (refine wpList_store_blk (o := ⟨none, _, 0, _, _, _⟩) 96 (.tmp 4) (.tmp 56) rfl rfl z [.int .u8 0, .int .u32 0, .int .u32 0, .int .u32 0, .slice none 0 0] [.int .u8 0, .int .u32 0, .int .u32 0, .int .u32 0, .slice none 0 0] 96 rfl rfl ZB.out rfl (by kernel_rfl) (by simp [Value.oneCell']) ?_; intro wE hZE hCE) | go_step)
      refine bodyPost_ret (v := .tuple #[.agg [.int .u8 0, .int .u32 0, .int .u32 0, .int .u32 0, .slice none 0 0].toArray, .int .i64 4]) (results_blk2 (fn := Tryd.f47) (p := 4) (q := 5) (ty := 96) rfl _ z [.int .u8 0, .int .u32 0, .int .u32 0, .int .u32 0, .slice none 0 0] 96 (.int .i64 4) rfl rfl hZE ⟨_, Tryd.underlying96, rfl⟩ (by kernel_rfl)) rfl ?_
      exact bget_no (BB.out.trans (hCE.below BB.out.size (by simp; exact Nat.le_of_eq Hz.out))) HG.out
    have hk' : ((k0 : Int) == 0) = false := by simp; exact hk
    by_cases hN : 104 < n
    case' pos =>
      have hN' : (104 : Int) < (n : Int) := by omega
      have HG := hid (show getB s i = (blkZ, 4) from by rw [HG0.out]; unfold readB; rw [if_neg HNZ.out, if_neg (by simp [HSM.out]), if_pos (.inr (.inl (by rw [NB.out]; exact hN)))])
      clear hN
      go_upto_region 10 with fail
      go_step
      repeat (first | (refine wpList_store_blk (o := ⟨none, _, 0, _, _, _⟩) 96 (.tmp 4) (.tmp 56) rfl rfl z [.int .u8 0, .int .u32 0, .int .u32 0, .int .u32 0, .slice none 0 0] [.int .u8 0, .int .u32 0, .int .u32 0, .int .u32 0, .slice none 0 0] 96 rfl rfl ZB.out rfl (by kernel_rfl) (by simp [Value.oneCell']) ?_; intro wE hZE hCE) | go_step)
      refine bodyPost_ret (v := .tuple #[.agg [.int .u8 0, .int .u32 0, .int .u32 0, .int .u32 0, .slice none 0 0].toArray, .int .i64 4]) (results_blk2 (fn := Tryd.f47) (p := 4) (q := 5) (ty := 96) rfl _ z [.int .u8 0, .int .u32 0, .int .u32 0, .int .u32 0, .slice none 0 0] 96 (.int .i64 4) rfl rfl hZE ⟨_, Tryd.underlying96, rfl⟩ (by kernel_rfl)) rfl ?_
      exact bget_no (BB.out.trans (hCE.below BB.out.size (by simp; exact Nat.le_of_eq Hz.out))) HG.out
    have hN' : ¬ ((104 : Int) < (n : Int)) := by omega
    have hN2 : (n : Int) ≤ 104 := by omega
    have HN := hid (show n ≤ 104 from by omega)
    have HK := hid hk
    clear hk hN
    obtain ⟨ez, hez⟩ : ∃ ez, (restB p).all (· == 0) = ez := ⟨_, rfl⟩
    have HEZ := hid hez
    clear hez
    go_upto_if 55 with (first | (refine wpList_cut (o := ⟨some 52, _, _, _, _, _⟩) _ (.tmp 49) (some (.tmp 51)) (some (.const (.int .i64 124))) rfl rfl 5 info_u8 under_bytes rfl PB.out (14 + n) 124 (.inl (show some (Value.int .i64 (14 + (n : Int))) = some (Value.int .i64 ((14 + n : Nat) : Int)) from by rw [Int.natCast_add]; rfl)) (.inl rfl) (by have := HN.out; omega) (by have := PC.out; omega) ?_; intro a52 hb52; have H52 := hid hb52; clear hb52) | (go_at_call 85; refine (empty_calls a52 _ (124 - (14 + n)) (restB p) _ (by have := H52.out.take (110 - n); unfold restB; rw [NB.out]; exact this) (by unfold restB; rw [NB.out, List.length_take, List.length_drop, PL.out]; have := HN.out; omega)).mono ?_; rintro e w3 ⟨rfl, hb3⟩; rw [HEZ.out]; have H3 := hid hb3; clear hb3))
    have hw3 := H3.out
    replace BB := hid (BB.out.trans (hw3.mono BB.out.size))
    replace ZB := hid (ZB.out.below hw3)
    replace PB := hid (PB.out.below hw3)
    replace ZL := hid ZB.out.lt
    have HZE := hid (show (Value.bool (!ez)) = Value.bool (!ez) from rfl)
    clear hw3 H3 H52 d0 d1 HZE
    cases ez
    case' false =>
      have HG := hid (show getB s i = (blkZ, 4) from by rw [HG0.out]; unfold readB; rw [if_neg HNZ.out, if_neg (by simp [HSM.out]), if_pos (.inr (.inr HEZ.out))])
      go_upto_region 10 with fail
      go_step
      repeat (first | (refine wpList_store_blk (o := ⟨none, _, 0, _, _, _⟩) 96 (.tmp 4) (.tmp 56) rfl rfl z [.int .u8 0, .int .u32 0, .int .u32 0, .int .u32 0, .slice none 0 0] [.int .u8 0, .int .u32 0, .int .u32 0, .int .u32 0, .slice none 0 0] 96 rfl rfl ZB.out rfl (by kernel_rfl) (by simp [Value.oneCell']) ?_; intro wE hZE hCE) | go_step)
      refine bodyPost_ret (v := .tuple #[.agg [.int .u8 0, .int .u32 0, .int .u32 0, .int .u32 0, .slice none 0 0].toArray, .int .i64 4]) (results_blk2 (fn := Tryd.f47) (p := 4) (q := 5) (ty := 96) rfl _ z [.int .u8 0, .int .u32 0, .int .u32 0, .int .u32 0, .slice none 0 0] 96 (.int .i64 4) rfl rfl hZE ⟨_, Tryd.underlying96, rfl⟩ (by kernel_rfl)) rfl ?_
      exact bget_no (BB.out.trans (hCE.below BB.out.size (by simp; exact Nat.le_of_eq Hz.out))) HG.out
    have HG := hid (show getB s i = (ofB p, 0) from by rw [HG0.out]; unfold readB; rw [if_neg HNZ.out, if_neg (by simp [HSM.out]), if_neg (by rw [K0.out, NB.out, HEZ.out]; have := HN.out; have := HK.out; simp; omega)])
    clear HEZ HNZ HSM HG0 HK
    have hbz := BZ.out
    obtain ⟨w1, rfl⟩ : ∃ w1' : World, w1' = w3 := ⟨_, rfl⟩
    rw [← K0.out] at *
    go_upto_region 11 with fail
    refine wp_region_chg 30 18 [z] (fun idx v w' => match idx with
      | 0 | 3 | 6 | 9 | 12 => v = .slice (some ⟨b, 0, none⟩) 128 c9
      | 1 => v = .pointer (some ⟨b, 0, none⟩)
      | 2 => v = .int .u8 ((p.getD 0 0).toNat : Int)
      | 4 => ∃ a c, v = .slice a 126 c ∧ SB w1 b a c (p.drop 2)
      | 5 => v = .int .u32 (get4 p 2 : Int)
      | 7 => ∃ a c, v = .slice a 122 c ∧ SB w1 b a c (p.drop 6)
      | 8 => v = .int .u32 (get4 p 6 : Int)
      | 10 => ∃ a c, v = .slice a 118 c ∧ SB w1 b a c (p.drop 10)
      | 11 => v = .int .u32 (get4 p 10 : Int)
      | 13 => v = .int .i64 (n : Int)
      | 14 => v = .int .i64 (((14 + n : Nat) : Nat) : Int)
      | 15 => ∃ a c, v = .slice a n c ∧ SB w1 b a c ((p.drop 14).take n)
      | 16 => ∃ a c, v = .slice a n c ∧ OB w' w1.heap.size 5 (.slice a n c) ((p.drop 14).take n)
      | 17 => ∃ a c, v = .agg [.int .u8 ((p.getD 0 0).toNat : Int), .int .u32 (get4 p 2 : Int), .int .u32 (get4 p 6 : Int), .int .u32 (get4 p 10 : Int), .slice a n c].toArray ∧ OB w' w1.heap.size 5 (.slice a n c) ((p.drop 14).take n)
      | 18 => ∃ a c, Blk w' z [.int .u8 ((p.getD 0 0).toNat : Int), .int .u32 (get4 p 2 : Int), .int .u32 (get4 p 6 : Int), .int .u32 (get4 p 10 : Int), .slice a n c] 96 ∧ OB w' w1.heap.size 5 (.slice a n c) ((p.drop 14).take n)
      | _ => True) (by kernel_rfl) (by kernel_rfl) (by kernel_rfl) ?_ ?_ ?_ ?_
    · intro j v wx wy hR hb
      match j, hR with
      | 0, hR | 3, hR | 6, hR | 9, hR | 12, hR | 1, hR | 2, hR | 4, hR | 5, hR | 7, hR | 8, hR | 10, hR | 11, hR | 13, hR | 14, hR | 15, hR => exact hR
      | 16, hR => exact (by obtain ⟨a, c, e0, h0⟩ := hR; exact ⟨a, c, e0, h0.below hb⟩)
      | 17, hR => exact (by obtain ⟨a, c, e0, h0⟩ := hR; exact ⟨a, c, e0, h0.below hb⟩)
      | 18, hR => exact (by obtain ⟨a, c, e0, h0⟩ := hR; exact ⟨a, c, e0.below hb, h0.below hb⟩)
      | _ + 19, _ => trivial
    · intro j v wx wy hne hR hb
      match j, hR with
      | 0, hR | 3, hR | 6, hR | 9, hR | 12, hR | 1, hR | 2, hR | 4, hR | 5, hR | 7, hR | 8, hR | 10, hR | 11, hR | 13, hR | 14, hR | 15, hR => exact hR
      | 16, hR => exact (by obtain ⟨a, c, e0, h0⟩ := hR; exact ⟨a, c, e0, h0.chg hb (fun k hk hm => by have := (OB.ownBlock h0 k hk); have := ZL.out; simp at hm; omega)⟩)
      | 17, hR => exact (by obtain ⟨a, c, e0, h0⟩ := hR; exact ⟨a, c, e0, h0.chg hb (fun k hk hm => by have := (OB.ownBlock h0 k hk); have := ZL.out; simp at hm; omega)⟩)
      | 18, _ => exact (hne rfl).elim
      | _ + 19, _ => trivial
    · refine ⟨?_, ?_, ?_, ?_, ?_, ?_, ?_, ?_, ?_, ?_, ?_, ?_, ?_, ?_, ?_, ?_, ?_, ?_, ?_, trivial⟩
      all_goals intro ρ wx hE hc hg hf
      · intro h0; exact opOk_move _ rfl ⟨Below.refl _ _, h0⟩
      · intro (h0 : ρ (.tmp 57) = .slice (some ⟨b, 0, none⟩) 128 c9)
        exact opOk_run (v := .pointer (some ⟨b, 0, none⟩)) (w' := wx) (by go_simp) ⟨Below.refl _ _, rfl⟩
      · intro (h0 : ρ (.tmp 58) = .pointer (some ⟨b, 0, none⟩))
        have hE1 : Chg [z] w1.drew wx := hE
        have c := bs_cell (SB.chg ⟨PB.out, fun y hy => by cases hy; rfl⟩ hE1 BZ.out) 0 (by rw [PL.out]; omega)
        exact opOk_load _ _ rfl _ _ h0 (run_u8_at _ _ _ _ c) ⟨Below.refl _ _, rfl⟩
      · intro h0; exact opOk_move _ rfl ⟨Below.refl _ _, h0⟩
      · intro (h0 : ρ (.tmp 60) = .slice (some ⟨b, 0, none⟩) 128 c9)
        exact opOk_cutb (.tmp 60) (some (.const (.int .i64 2))) none rfl h0 PB.out 2 128 126 (.inl (by simp [hc])) (.inr ⟨rfl, rfl⟩) (by omega) (by have := PC.out; omega) rfl fun a' ha => ⟨Below.refl _ _, a', _, rfl, by rwa [List.take_of_length_le (by rw [List.length_drop, PL.out]; omega)] at ha⟩
      · intro ⟨a0, c0, (h0 : ρ (.tmp 61) = .slice a0 126 c0), hb0⟩
        have hE1 : Chg [z] w1.drew wx := hE
        refine opOk_call (f := 83) (args := #[.slice a0 126 c0]) (by go_simp) ?_
        refine (get4_n a0 126 c0 (p.drop 2) _ (hb0.chg hE1 BZ.out) (by rw [List.length_drop, PL.out]) (by omega)).mono ?_
        rintro e wy ⟨rfl, hbel⟩
        exact ⟨_, rfl, hbel, rfl⟩
      · intro h0; exact opOk_move _ rfl ⟨Below.refl _ _, h0⟩
      · intro (h0 : ρ (.tmp 63) = .slice (some ⟨b, 0, none⟩) 128 c9)
        exact opOk_cutb (.tmp 63) (some (.const (.int .i64 6))) none rfl h0 PB.out 6 128 122 (.inl (by simp [hc])) (.inr ⟨rfl, rfl⟩) (by omega) (by have := PC.out; omega) rfl fun a' ha => ⟨Below.refl _ _, a', _, rfl, by rwa [List.take_of_length_le (by rw [List.length_drop, PL.out]; omega)] at ha⟩
      · intro ⟨a0, c0, (h0 : ρ (.tmp 64) = .slice a0 122 c0), hb0⟩
        have hE1 : Chg [z] w1.drew wx := hE
        refine opOk_call (f := 83) (args := #[.slice a0 122 c0]) (by go_simp) ?_
        refine (get4_n a0 122 c0 (p.drop 6) _ (hb0.chg hE1 BZ.out) (by rw [List.length_drop, PL.out]) (by omega)).mono ?_
        rintro e wy ⟨rfl, hbel⟩
        exact ⟨_, rfl, hbel, rfl⟩
      · intro h0; exact opOk_move _ rfl ⟨Below.refl _ _, h0⟩
      · intro (h0 : ρ (.tmp 66) = .slice (some ⟨b, 0, none⟩) 128 c9)
        exact opOk_cutb (.tmp 66) (some (.const (.int .i64 10))) none rfl h0 PB.out 10 128 118 (.inl (by simp [hc])) (.inr ⟨rfl, rfl⟩) (by omega) (by have := PC.out; omega) rfl fun a' ha => ⟨Below.refl _ _, a', _, rfl, by rwa [List.take_of_length_le (by rw [List.length_drop, PL.out]; omega)] at ha⟩
      · intro ⟨a0, c0, (h0 : ρ (.tmp 67) = .slice a0 118 c0), hb0⟩
        have hE1 : Chg [z] w1.drew wx := hE
        refine opOk_call (f := 83) (args := #[.slice a0 118 c0]) (by go_simp) ?_
        refine (get4_n a0 118 c0 (p.drop 10) _ (hb0.chg hE1 BZ.out) (by rw [List.length_drop, PL.out]) (by omega)).mono ?_
        rintro e wy ⟨rfl, hbel⟩
        exact ⟨_, rfl, hbel, rfl⟩
      · intro h0; exact opOk_move _ rfl ⟨Below.refl _ _, h0⟩
      · intro h0; exact opOk_move _ rfl ⟨Below.refl _ _, h0⟩
      · intro (h0 : ρ (.tmp 70) = .int .i64 (n : Int))
        have hn1 : (n : Int) ≤ 104 := by have := HN.out; omega
        exact opOk_run (v := .int .i64 (((14 + n : Nat) : Nat) : Int)) (w' := wx) (by go_simp; rw [IntKind.wrap_i64]; omega) ⟨Below.refl _ _, rfl⟩
      · intro (h0 : ρ (.tmp 69) = .slice (some ⟨b, 0, none⟩) 128 c9) (h1 : ρ (.tmp 71) = .int .i64 (((14 + n : Nat) : Nat) : Int))
        exact opOk_cutb (.tmp 69) (some (.const (.int .i64 14))) (some (.tmp 71)) rfl h0 PB.out 14 (14 + n) n (.inl (by simp [hc])) (.inl (by simp only [Option.map_some, h1])) (by omega) (by have := PC.out; have := HN.out; omega) (by omega) fun a' ha => ⟨Below.refl _ _, a', _, rfl, ha⟩
      · intro ⟨a0, c0, (h0 : ρ (.tmp 72) = .slice a0 n c0), hb0⟩
        have hE1 : Chg [z] w1.drew wx := hE
        refine opOk_call (f := 75) (args := #[.slice a0 n c0]) (by go_simp) ?_
        refine (clone_n a0 n c0 ((p.drop 14).take n) _ (hb0.chg hE1 BZ.out) (by rw [List.length_take, List.length_drop, PL.out]; have := HN.out; omega) (by have := HN.out; omega)).mono ?_
        rintro e wy ⟨v, rfl, ho, hbel⟩
        obtain ⟨a3, n3, c3, e3, hl3, _, _⟩ := ob_n ho
        obtain rfl : n3 = n := by rw [← hl3, List.length_take, List.length_drop, PL.out]; have := HN.out; omega
        subst e3
        exact ⟨_, rfl, hbel, a3, c3, rfl, OB.base ho (Nat.le_trans (by simp) hE1.size)⟩
      · intro (h0 : ρ (.tmp 59) = .int .u8 ((p.getD 0 0).toNat : Int)) (h1 : ρ (.tmp 62) = .int .u32 (get4 p 2 : Int)) (h2 : ρ (.tmp 65) = .int .u32 (get4 p 6 : Int)) (h3 : ρ (.tmp 68) = .int .u32 (get4 p 10 : Int)) ⟨a, c, (h4 : ρ (.tmp 73) = .slice a n c), h5⟩
        exact opOk_run (v := .agg [.int .u8 ((p.getD 0 0).toNat : Int), .int .u32 (get4 p 2 : Int), .int .u32 (get4 p 6 : Int), .int .u32 (get4 p 10 : Int), .slice a n c].toArray) (w' := wx) (by go_simp) ⟨Below.refl _ _, a, c, rfl, h5⟩
      · intro (h0 : ρ (.tmp 4) = .pointer (some ⟨z, 0, none⟩)) ⟨a, c, (h1 : ρ (.tmp 74) = .agg [.int .u8 ((p.getD 0 0).toNat : Int), .int .u32 (get4 p 2 : Int), .int .u32 (get4 p 6 : Int), .int .u32 (get4 p 10 : Int), .slice a n c].toArray), h2⟩
        have hE1 : Below w1.drew.heap.size w1.drew wx := hE
        refine opOk_store_row 96 (.tmp 4) (.tmp 74) rfl z 0 [.int .u8 ((p.getD 0 0).toNat : Int), .int .u32 (get4 p 2 : Int), .int .u32 (get4 p 6 : Int), .int .u32 (get4 p 10 : Int), .slice a n c] [.int .u8 0, .int .u32 0, .int .u32 0, .int .u32 0, .slice none 0 0] 96 h0 h1 ((ZB.out.below (below_drew _)).below hE1) (by simp only [List.length_cons, List.length_nil]; omega) (by kernel_rfl) (by intro u hu; simp only [List.mem_cons, List.not_mem_nil, or_false] at hu; rcases hu with rfl | rfl | rfl | rfl | rfl <;> rfl) ?_
        intro hM2 hC2
        exact ⟨hC2, a, c, hM2, h2.chg hC2 (fun k hk hm => by have := (OB.ownBlock h2 k hk); have := ZL.out; simp at hm; omega)⟩
    · intro wz hE
      rintro _ rfl _ rfl _ rfl _ rfl _ _ _ rfl _ rfl _ _ _ rfl _ rfl _ _ _ rfl _ rfl _ rfl _ rfl _ _ _ _ _ _ _ ⟨a9, c8, hM, hO9⟩
      simp only [PutLast, Act.put, List.setIfInBounds_toArray, List.set_cons_succ, List.set_cons_zero]
      refine opOk_assignV (.const (.int .i64 0)) (.int .i64 0) rfl rfl ?_
      replace hE : Chg [z] w1.drew wz := hE
      have HM := hid hM
      have HO9 := hid hO9
      have HE := hid hE
      clear hM hO9 hE
      go_wp2_with fail
      refine bodyPost_ret (v := .tuple #[.agg [.int .u8 ((p.getD 0 0).toNat : Int), .int .u32 (get4 p 2 : Int), .int .u32 (get4 p 6 : Int), .int .u32 (get4 p 10 : Int), .slice a9 n c8].toArray, .int .i64 0]) (results_blk2 (fn := Tryd.f47) (p := 4) (q := 5) (ty := 96) rfl _ z [.int .u8 ((p.getD 0 0).toNat : Int), .int .u32 (get4 p 2 : Int), .int .u32 (get4 p 6 : Int), .int .u32 (get4 p 10 : Int), .slice a9 n c8] 96 (.int .i64 0) rfl rfl HM.out ⟨_, Tryd.underlying96, rfl⟩ (by kernel_rfl)) rfl ?_
      rw [HG.out]
      exact ⟨a9, n, c8, rfl, by show ((p.drop 14).take (nB p)).length = n; rw [NB.out, List.length_take, List.length_drop, PL.out]; have := HN.out; omega, by show OB wz _ 5 _ ((p.drop 14).take (nB p)); rw [NB.out]; exact OB.base HO9.out BB.out.size, BB.out.trans (((below_drew w1).mono BB.out.size).trans (HE.out.below (by have := BB.out.size; simpa using this) (by simp; exact Nat.le_of_eq Hz.out)))⟩

set_option maxRecDepth 100000 in
set_option maxHeartbeats 1000000 in
theorem nilbget_calls (w : World) (i : Int) : Calls Tryd.prog 47 #[.pointer none, .int .i64 i] w (BGetTo w (blkZ, 6)) := by
  obtain ⟨z, hz⟩ : ∃ z, w.heap.size = z := ⟨_, rfl⟩
  have ZB := hid (show Blk (w.alloc (.cells #[.int .u8 0, .int .u32 0, .int .u32 0, .int .u32 0, .slice none 0 0] 96)) z [.int .u8 0, .int .u32 0, .int .u32 0, .int .u32 0, .slice none 0 0] 96 from by rw [← hz]; exact blk_alloc w [.int .u8 0, .int .u32 0, .int .u32 0, .int .u32 0, .slice none 0 0] 96)
  have Hz := hid hz
  have BB := hid (below_alloc w (.cells #[.int .u8 0, .int .u32 0, .int .u32 0, .int .u32 0, .slice none 0 0] 96))
  go_enter Tryd.func47, Tryd.ntmps47
  go_wp2_with fail
  refine (nilread_calls _ i).mono ?_
  rintro e w1 ⟨rfl, rfl⟩
  clear hz
  go_upto_region 3 with fail
  go_step
  repeat (first | (refine wpList_store_blk (o := ⟨none, _, 0, _, _, _⟩) 96 (.tmp 4) (.tmp 18) rfl rfl z [.int .u8 0, .int .u32 0, .int .u32 0, .int .u32 0, .slice none 0 0] [.int .u8 0, .int .u32 0, .int .u32 0, .int .u32 0, .slice none 0 0] 96 rfl rfl ZB.out rfl (by kernel_rfl) (by simp [Value.oneCell']) ?_; intro wE hZE hCE) | go_step)
  refine bodyPost_ret (v := .tuple #[.agg [.int .u8 0, .int .u32 0, .int .u32 0, .int .u32 0, .slice none 0 0].toArray, .int .i64 6]) (results_blk2 (fn := Tryd.f47) (p := 4) (q := 5) (ty := 96) rfl _ z [.int .u8 0, .int .u32 0, .int .u32 0, .int .u32 0, .slice none 0 0] 96 (.int .i64 6) rfl rfl hZE ⟨_, Tryd.underlying96, rfl⟩ (by kernel_rfl)) rfl ?_
  exact bget_no (BB.out.trans (hCE.below BB.out.size (by simp; exact Nat.le_of_eq Hz.out))) rfl
end Go.Proofs.YtoapibbbooongaaDoor
