/- The walks of layer 8: an image is put. -/
import Derived.Test.YtoapibbbooongaaDoorImgG
import Derived.Test.YtoapibbbooongaaDoorImgC
import Derived.Test.YtoapibbbooongaaDoorImgM
namespace Go.Proofs.YtoapibbbooongaaDoor
open Go.RowKit Go.Quad _root_.Quad _root_.Quad.Slab

/-! places taken -/
theorem freeP_prefix (m : List Bool) (i : Nat) : ∀ d, ∃ l, freeP m (i + d) = freeP m i ++ l
  | 0 => ⟨[], by simp⟩
  | d + 1 => by
    obtain ⟨l, h⟩ := freeP_prefix m i d
    exact ⟨l ++ _, by rw [← Nat.add_assoc, freeP_succ, h, List.append_assoc]⟩
theorem taken_is {m : List Bool} {i k : Nat} (hi : i ≤ m.length) (hk : (freeP m i).length = k) : takenI m k = freeP m i := by
  obtain ⟨l, h⟩ := freeP_prefix m i (m.length - i)
  rw [show i + (m.length - i) = m.length from by omega] at h
  unfold takenI
  rw [h, List.take_left' hk]
theorem mk_is {m : List Bool} {i : Nat} (hi : i ≤ m.length) : mkM m i = markI m (freeP m i) := by
  unfold markI
  refine List.ext_getElem (by rw [mkM_length hi, markI_len]) fun x h1 h2 => ?_
  have hx : x < m.length := by rw [mkM_length hi] at h1; exact h1
  have e1 := markI_get x true (freeP m i) m hx
  rw [List.getD_eq_getElem?_getD, List.getElem?_eq_getElem h2] at e1
  have e1 : (List.foldl (fun m i => m.set i true) m (freeP m i))[x] = _ := e1
  rw [e1]
  have e2 : (mkM m i)[x]? = some (mkM m i)[x] := List.getElem?_eq_getElem h1
  rcases Nat.lt_or_ge x i with h | h
  · rw [mkM_lt h] at e2
    simp only [Option.some.injEq] at e2
    rw [← e2]
    split
    · rfl
    · rename_i hn
      cases hb : m.getD x true with
      | true => rfl
      | false => exact absurd (by unfold freeP; rw [List.mem_filter, List.mem_range]; exact ⟨h, by rw [hb]; rfl⟩) hn
  · rw [mkM_get h, List.getElem?_eq_getElem hx] at e2
    simp only [Option.some.injEq] at e2
    rw [← e2, if_neg (fun hm => by have := (freeP_lt hm).1; omega), List.getD_eq_getElem?_getD, List.getElem?_eq_getElem hx]
    rfl
theorem free_set {m : List Bool} {i : Nat} (h : i < m.length) : (markM m (i : Int) false).1 = m.set i false := by
  unfold markM
  rw [Int.toNat_natCast]
  split
  · rfl
  · rename_i hn
    have hm : m[i] = false := by
      cases hb : m[i] with
      | false => rfl
      | true => exact absurd ⟨by omega, by omega, by rw [List.getD_eq_getElem?_getD, List.getElem?_eq_getElem h, hb]; rfl⟩ hn
    show m = m.set i false
    rw [← hm, List.set_getElem_self]
/-- a store and its slab -/
structure StAt (w : World) (B g d : Nat) (wv : Value) (c mb fg fd : Nat) (Q : Nat → Prop) (E : List Ent) (I : Im) : Prop where
  slab : IsSlab w B g d wv I.sl
  sto : IsSto w B g c mb fg fd Q E I
  apart : ∀ k ∈ [c, mb, fg, fd], k ∉ slS g d wv
  q : ∀ k ∈ slS g d wv, ¬ Q k
def stS (g d : Nat) (wv : Value) (c mb fg fd : Nat) : List Nat := slS g d wv ++ [c, mb, fg, fd]
theorem StAt.lt {w : World} {B g d : Nat} {wv : Value} {c mb fg fd : Nat} {Q : Nat → Prop} {E : List Ent} {I : Im} (h : StAt w B g d wv c mb fg fd Q E I) : ∀ k ∈ stS g d wv c mb fg fd, k < w.heap.size := by
  intro k hk
  rcases List.mem_append.1 hk with hk | hk
  · exact (h.slab.in_ge k hk).2
  · exact (h.sto.lt k hk).2
theorem StAt.slabbed {w w' : World} {B g d : Nat} {wv wv' : Value} {c mb fg fd : Nat} {Q : Nat → Prop} {E : List Ent} {I : Im} {s' : Sl} (h : StAt w B g d wv c mb fg fd Q E I) {n : Nat} (_hQ : ∀ k, Q k → k < n) (hs : IsSlab w' B g d wv' s') (hc : Chg (slS g d wv) w w') (ho : ∀ k, wv'.ownBlock = some k → k ∈ slS g d wv ∨ w.heap.size ≤ k) : StAt w' B g d wv' c mb fg fd Q E { I with sl := s' } := by
  have hin : ∀ k ∈ slS g d wv', k ∈ slS g d wv ∨ w.heap.size ≤ k := by
    intro k hk
    rcases slS_mem hk with rfl | rfl | hk
    · exact .inl (by simp [slS])
    · exact .inl (by simp [slS])
    · exact ho k hk
  refine ⟨hs, (h.sto.keep hc fun k hk => ⟨fun hm => h.apart k hm hk, h.q k hk⟩).slab s', fun k hk hm => ?_, fun k hk hq => ?_⟩
  · rcases hin k hm with h1 | h1
    · exact h.apart k hk h1
    · have := (h.sto.lt k hk).2; omega
  · rcases hin k hk with h1 | h1
    · exact h.q k h1 hq
    · have := (h.sto.inQ k hq).2.1; omega
theorem placed_in {I : Im} {x : Img} (hz : 0 < x.job ∧ (0 ≤ x.credit ∧ x.credit ≤ 10000) ∧ (1 ≤ x.blobs.length ∧ x.blobs.length ≤ 16) ∧ ∀ b ∈ x.blobs, b.length ≤ 103) (hj : x.job < 4294967296) (hv : x.ver < 4294967296) (hr : ¬ leftM I.used < x.blobs.length + 1) : (placedI I x).In I.used.length :=
  ⟨hj, hv, hz.2.1, hz.2.2.1, taken_len (by omega), fun p hp => (taken_mem hp).1⟩
theorem StAt.ge {w : World} {B g d : Nat} {wv : Value} {c mb fg fd : Nat} {Q : Nat → Prop} {E : List Ent} {I : Im} (h : StAt w B g d wv c mb fg fd Q E I) : ∀ k ∈ stS g d wv c mb fg fd, B ≤ k := by
  intro k hk
  rcases List.mem_append.1 hk with hk | hk
  · exact (h.slab.in_ge k hk).1
  · exact (h.sto.lt k hk).1
def hadL (r : Option Ent) : List Nat := match r with | none => [] | some e => e.x.at'
def hadV (r : Option Ent) : Value := match r with | none => .slice none 0 0 | some e => e.av
theorem lookV4 (r : Option Ent) : (lookV r)[4]? = some (hadV r) := by cases r <;> rfl
theorem AL.nil (w : World) (Q : Nat → Prop) : AL w Q (.slice none 0 0) [] := ⟨none, 0, rfl, ⟨by simp, by simp [maxLen], fun _ => rfl, .inl rfl⟩, InQ.none _⟩
theorem hadV_at {w : World} {Q : Nat → Prop} {E : List Ent} {r : Option Ent} (h : ∀ e ∈ E, e.At w Q) (hr : ∀ e, r = some e → e ∈ E) : AL w Q (hadV r) (hadL r) := by
  cases r with
  | none => exact AL.nil _ _
  | some e => exact (h e (hr e rfl)).2
theorem hadL_at {L : List Img} {r : Option Ent} {j : Nat} (h : findI L j = r.map Ent.x) : atI L j = hadL r := by
  unfold atI
  rw [h]
  cases r <;> rfl
theorem StAt.below {w w' : World} {B g d : Nat} {wv : Value} {c mb fg fd : Nat} {Q : Nat → Prop} {E : List Ent} {I : Im} (h : StAt w B g d wv c mb fg fd Q E I) (hb : Below w.heap.size w w') : StAt w' B g d wv c mb fg fd Q E I :=
  ⟨h.slab.below hb, h.sto.below hb, h.apart, h.q⟩
/-- what a call on a store leaves -/
def StTo (w : World) (B g d : Nat) (wv : Value) (c mb fg fd : Nat) (Q : Nat → Prop) (r : Im × Nat) (e : Ending) (w' : World) : Prop :=
  ∃ wv' Q' E', e = .returned (.int .i64 (r.2 : Int)) ∧ StAt w' B g d wv' c mb fg fd Q' E' r.1 ∧ Chg (stS g d wv c mb fg fd) w w' ∧ (∀ k, wv'.ownBlock = some k → k ∈ slS g d wv ∨ w.heap.size ≤ k) ∧ ∀ k, Q' k → Q k ∨ w.heap.size ≤ k
theorem StTo.same {w w' : World} {B g d : Nat} {wv : Value} {c mb fg fd : Nat} {Q : Nat → Prop} {E : List Ent} {I : Im} {n : Nat} {r : Im × Nat} (h : StAt w' B g d wv c mb fg fd Q E I) (hb : Chg (stS g d wv c mb fg fd) w w') (hr : r = (I, n)) : StTo w B g d wv c mb fg fd Q r (.returned (.int .i64 (n : Int))) w' := by
  subst hr
  exact ⟨wv, Q, E, rfl, h, hb, fun k hk => .inl (slS_own hk), fun k hk => .inl hk⟩
/-- what had been looked up -/
def HadTo (w3 : World) (r : Option Ent) (v7 v8 : Value) (w' : World) : Prop := ∃ q7, v7 = .pointer (some ⟨q7, 0, none⟩) ∧ v8 = .bool r.isSome ∧ Blk w' q7 (lookV r) 100 ∧ Below w3.heap.size w3 w' ∧ w3.heap.size ≤ q7
def staleR (x : Img) (r : Option Ent) : Bool := match r with | none => false | some e => decide (x.ver ≤ e.x.ver)
theorem putI_stale {c : Im} {x y : Img} (h1 : ¬ (c.down || c.sl.off) = true) (h2 : rightI x = 0) (hf : findI c.L x.job = some y) (h : x.ver ≤ y.ver) : putI c x = (c, 12) := by
  unfold putI
  rw [if_neg h1, if_neg (by simp [h2]), hf, if_pos (by simpa using h)]
theorem putI_full {c : Im} {x : Img} (h1 : ¬ (c.down || c.sl.off) = true) (h2 : rightI x = 0) (hn : ∀ y, findI c.L x.job = some y → y.ver < x.ver) (h : leftM c.used < x.blobs.length + 1) : putI c x = (c, 8) := by
  unfold putI
  rw [if_neg h1, if_neg (by simp [h2])]
  cases hf : findI c.L x.job with
  | none => rw [if_neg (by simp), if_pos h]
  | some y => have := hn y hf; rw [if_neg (by simp; omega), if_pos h]
theorem putI_err {c : Im} {x : Img} {s' : Sl} {r : Nat} (h1 : ¬ (c.down || c.sl.off) = true) (h2 : rightI x = 0) (hn : ∀ y, findI c.L x.job = some y → y.ver < x.ver) (h : ¬ leftM c.used < x.blobs.length + 1) (hw : writeI c.from' c.epoch (placedI c x) c.sl = (s', r)) (hr : r ≠ 0) :
    putI c x = ({ c with sl := s', used := markI c.used (takenI c.used (x.blobs.length + 1)), down := true }, r) := by
  unfold putI
  rw [if_neg h1, if_neg (by simp [h2]), hw, if_pos hr]
  cases hf : findI c.L x.job with
  | none => rw [if_neg (by simp), if_neg h]
  | some y => have := hn y hf; rw [if_neg (by simp; omega), if_neg h]
theorem putI_done {c : Im} {x : Img} {s' : Sl} (h1 : ¬ (c.down || c.sl.off) = true) (h2 : rightI x = 0) (hn : ∀ y, findI c.L x.job = some y → y.ver < x.ver) (h : ¬ leftM c.used < x.blobs.length + 1) (hw : writeI c.from' c.epoch (placedI c x) c.sl = (s', 0)) :
    putI c x = ({ c with sl := s', used := freeI (markI c.used (takenI c.used (x.blobs.length + 1))) (atI c.L x.job), L := setK Img.job (placedI c x) c.L }, 0) := by
  unfold putI
  rw [if_neg h1, if_neg (by simp [h2]), hw]
  cases hf : findI c.L x.job with
  | none => rw [if_neg (by simp), if_neg h, if_neg (by simp)]
  | some y => have := hn y hf; rw [if_neg (by simp; omega), if_neg h, if_neg (by simp)]
theorem staleR_false {L : List Img} {x : Img} {r : Option Ent} (hfd : findI L x.job = r.map Ent.x) (h : staleR x r = false) : ∀ y, findI L x.job = some y → y.ver < x.ver := by
  intro y hy
  rw [hfd] at hy
  cases r with
  | none => cases hy
  | some e =>
    simp only [Option.map_some, Option.some.injEq] at hy
    subst hy
    unfold staleR at h
    simpa using h
theorem staleR_true {L : List Img} {x : Img} {r : Option Ent} (hfd : findI L x.job = r.map Ent.x) (h : staleR x r = true) : ∃ y, findI L x.job = some y ∧ x.ver ≤ y.ver := by
  cases r with
  | none => cases h
  | some e => exact ⟨e.x, hfd, by unfold staleR at h; simpa using h⟩
theorem upd_run {w : World} {mb n : Nat} {D : DataW Unit} {en : Ent} (h : w.ownsMap Tryd.prog 31 entR mb n D) (hn : n < maxLen) (hj : en.x.job < 4294967296) :
    ∃ w', (Instr.mapUpdate 90 (.map (some mb)) (.int .u32 (en.x.job : Int)) (.agg en.V.toArray)).run Tryd.prog w = .ok () w' ∧ w'.ownsMap Tryd.prog 31 entR mb (n + 1) (D.put (idK en.x.job) en.dat) ∧ w.mapTurned w' mb :=
  h.store keyed32 Tryd.underlying90 hn (keyOf32 hj) (entR_mk en)
theorem ent_lit {I : Im} {x : Img} {bb bo c9 ab ao ac : Nat} (h : (placedI I x).at'.length = x.blobs.length + 1) : (Value.agg (Ent.V ⟨placedI I x, bb, bo, c9, ab, ao, ac⟩).toArray) = .agg #[.int .u32 (x.job : Int), .int .u32 (x.ver : Int), .int .i64 x.credit, .slice (some ⟨bb, bo, none⟩) x.blobs.length c9, .slice (some ⟨ab, ao, none⟩) (x.blobs.length + 1) ac] := by
  rw [← h]
  rfl
theorem upd_lit {w : World} {mb n : Nat} {D : DataW Unit} {I : Im} {x : Img} {bb bo c9 ab ao ac : Nat} (h : w.ownsMap Tryd.prog 31 entR mb n D) (hn : n < maxLen) (hj : x.job < 4294967296) (hl : (placedI I x).at'.length = x.blobs.length + 1) :
    ∃ w', (Instr.mapUpdate 90 (.map (some mb)) (.int .u32 (x.job : Int)) (.agg #[.int .u32 (x.job : Int), .int .u32 (x.ver : Int), .int .i64 x.credit, .slice (some ⟨bb, bo, none⟩) x.blobs.length c9, .slice (some ⟨ab, ao, none⟩) (x.blobs.length + 1) ac])).run Tryd.prog w = .ok () w' ∧
      w'.ownsMap Tryd.prog 31 entR mb (n + 1) (D.put (idK x.job) (Ent.dat ⟨placedI I x, bb, bo, c9, ab, ao, ac⟩)) ∧ w.mapTurned w' mb := by
  have := upd_run (en := ⟨placedI I x, bb, bo, c9, ab, ao, ac⟩) h hn hj
  rw [ent_lit hl] at this
  exact this
/-- the old one's places are given back, one by one -/
def FrRel (w6 : World) (B g d : Nat) (wv : Value) (c mb fg fd : Nat) (Q : Nat → Prop) (E : List Ent) (I : Im) (l : List Nat) (jv : Value) (wr : World) : Prop :=
  ∃ j : Nat, jv = .int .i64 (j : Int) ∧ j ≤ l.length ∧ StAt wr B g d wv c mb fg fd Q E { I with used := freeI I.used (l.take j) } ∧ Chg [fg, fd] w6 wr
/-- a put under way -/
structure PB (w : World) (B g d : Nat) (wv : Value) (c mb fg fd q : Nat) (Q QA : Nat → Prop) (E : List Ent) (I : Im) (x : Img) (ba : Option Addr) (bc : Nat) (w' : World) : Prop where
  st : StAt w' B g d wv c mb fg fd Q E I
  bl : BL w' QA (.slice ba x.blobs.length bc) x.blobs
  own : Blk w' q (imgV x (.slice ba x.blobs.length bc)) 36
  chg : Chg (stS g d wv c mb fg fd) w w'
  new : w.heap.size ≤ q
theorem PB.below {w : World} {B g d : Nat} {wv : Value} {c mb fg fd q : Nat} {Q QA : Nat → Prop} {E : List Ent} {I : Im} {x : Img} {ba : Option Addr} {bc : Nat} {w2 w3 : World} (h : PB w B g d wv c mb fg fd q Q QA E I x ba bc w2) (hb : Below w2.heap.size w2 w3) : PB w B g d wv c mb fg fd q Q QA E I x ba bc w3 :=
  ⟨h.st.below hb, h.bl.below hb, h.own.below hb, h.chg.trans (Chg.of_below _ hb), h.new⟩
theorem PB.taken {w : World} {B g d : Nat} {wv : Value} {c mb fg fd q : Nat} {Q QA : Nat → Prop} {E : List Ent} {I : Im} {x : Img} {ba : Option Addr} {bc : Nat} {w2 w3 : World} {i k : Nat} (h : PB w B g d wv c mb fg fd q Q QA E I x ba bc w2) (hQA : ∀ k ∈ stS g d wv c mb fg fd, ¬ QA k) (hl : ∀ k ∈ stS g d wv c mb fg fd, k < w.heap.size) (hi : i ≤ I.used.length) (hk : (freeP I.used i).length = k) (hm : IsMp w3 fg fd (mkM I.used i)) (hc : Chg [fg, fd] w2 w3) :
    PB w B g d wv c mb fg fd q Q QA E { I with used := markI I.used (takenI I.used k) } x ba bc w3 := by
  have hin : ∀ j ∈ [fg, fd], j ∈ stS g d wv c mb fg fd := fun j hj => by
    simp only [List.mem_cons, List.not_mem_nil, or_false] at hj
    rcases hj with rfl | rfl <;> simp [stS]
  have e : mkM I.used i = markI I.used (takenI I.used k) := by rw [taken_is hi hk, mk_is hi]
  rw [e] at hm
  have hno : ∀ j ∈ [fg, fd], j ∉ slS g d wv := fun j hj => h.st.apart j (by
    simp only [List.mem_cons, List.not_mem_nil, or_false] at hj
    rcases hj with rfl | rfl <;> simp)
  refine ⟨⟨h.st.slab.chg hc hno, h.st.sto.marks hc hm (by unfold markI; rw [markI_len]), h.st.apart, h.st.q⟩, h.bl.keep hc (fun j hj => hQA j (hin j hj)) (fun _ h => h), h.own.keep hc (fun hm => by have := hl q (hin q hm); have := h.new; omega), h.chg.trans (hc.mono fun j hj => .inl (hin j hj)), h.new⟩
set_option maxRecDepth 100000 in
set_option maxHeartbeats 4000000 in
theorem iput_calls (w : World) (B g d : Nat) (wv : Value) (c mb fg fd : Nat) (Q QA : Nat → Prop) (E : List Ent) (I : Im) (x : Img) (ba : Option Addr) (bn bc : Nat) (hS : StAt w B g d wv c mb fg fd Q E I) (hB : BL w QA (.slice ba bn bc) x.blobs)
    (hQA : ∀ k ∈ stS g d wv c mb fg fd, ¬ QA k) (hj : x.job < 4294967296) (hv : x.ver < 4294967296) (hc : -9223372036854775808 ≤ x.credit ∧ x.credit ≤ 9223372036854775807) (hq : Laid w) (hB0 : 0 < B) (hs : I.sl.steps + 100 < 1000000) (hw : I.sl.way.length + 100 < 1000000) :
    Calls Tryd.prog 14 #[.pointer (some ⟨c, 0, none⟩), .agg (imgV x (.slice ba bn bc)).toArray] w (StTo w B g d wv c mb fg fd Q (putI I x)) := by
  have HS := hid hS
  have HB := hid hB
  have HL := hid hq
  have HQA := hid hQA
  have HLT := hid hS.lt
  have HGE := hid hS.ge
  have HBS := hid (show B ≤ w.heap.size from Nat.le_trans (hS.slab.in_ge g (by simp [slS])).1 (Nat.le_of_lt (hS.slab.in_ge g (by simp [slS])).2))
  have HLQ := hid (fun k (hk : Q k) => (hS.sto.inQ k hk).2.1)
  obtain rfl : bn = x.blobs.length := hB.len.1
  obtain ⟨q, hqq⟩ : ∃ q, w.heap.size = q := ⟨_, rfl⟩
  have b1 := below_alloc w (.cells (imgV x (.slice ba x.blobs.length bc)).toArray 36)
  have x1 := blk_alloc w (imgV x (.slice ba x.blobs.length bc)) 36
  obtain ⟨R0, hR0⟩ : ∃ R0, putI I x = R0 := ⟨_, rfl⟩
  rw [hR0]
  have HR0 := hid hR0
  rw [hqq] at x1
  unfold imgV at b1 x1 ⊢
  have hz1 : (w.alloc (.cells [.int .u32 (x.job : Int), .int .u32 (x.ver : Int), .int .i64 x.credit, .slice ba x.blobs.length bc].toArray 36)).heap.size = q + 1 := by simp; omega
  have B1 := hid b1
  have X1 := hid x1
  clear hS hB hq hQA b1 x1 hR0
  go_enter Tryd.func14, Tryd.ntmps14
  go_upto_region 1 with fail
  have HQQ := hid hqq
  clear hqq
  generalize (w.alloc (.cells #[.int .u32 (x.job : Int), .int .u32 (x.ver : Int), .int .i64 x.credit, .slice ba x.blobs.length bc] 36)) = w1 at B1 X1 hz1 ⊢
  have S1 := hid (HS.out.below B1.out)
  have hrd := hid (ready_calls w1 B g d wv c mb fg fd Q E I S1.out.slab S1.out.sto)
  have hcs : ∀ k ∈ [c], k ∈ stS g d wv c mb fg fd := fun k hk => by rw [List.mem_singleton] at hk; subst hk; simp [stS]
  by_cases hdn : (I.down || I.sl.off) = true
  case pos =>
    have hri : readyI I = ({ I with down := true }, 13) := by unfold readyI; rw [if_pos hdn]
    have hpi : R0 = ({ I with down := true }, 13) := by rw [← HR0.out]; unfold putI; rw [if_pos hdn]
    unfold ReadyTo at hrd
    rw [hri] at hrd
    have HPI := hid hpi
    have HCS := hid hcs
    clear hri hpi hdn hcs
    go_wp2_with (go_at_call 50; refine hrd.out.mono ?_; rintro e w2 ⟨rfl, hs2, hc2⟩; have S2 := hid hs2; have C2 := hid hc2; clear hs2 hc2; dsimp only)
    go_ret
    have nc : c ∉ slS g d wv := HS.out.apart c (by simp)
    exact StTo.same (I := { I with down := true }) (n := 13) ⟨S1.out.slab.chg C2.out (fun k hk hm => by rw [List.mem_singleton] at hk; subst hk; exact nc hm), S2.out, HS.out.apart, HS.out.q⟩ ((Chg.of_below _ B1.out).trans (C2.out.mono fun k hk => .inl (HCS.out k hk))) HPI.out
  have hri : readyI I = (I, 0) := by unfold readyI; rw [if_neg hdn]
  unfold ReadyTo at hrd
  rw [hri] at hrd
  have HDN := hid hdn
  have HCS := hid hcs
  clear hri hdn hcs
  go_upto_region 4 with (go_at_call 50; refine hrd.out.mono ?_; rintro e w2 ⟨rfl, hs2, hc2⟩; have S2 := hid hs2; have C2 := hid hc2; clear hs2 hc2; dsimp only)
  have hcw : c < w.heap.size := (HS.out.sto.lt c (by simp)).2
  have P2 := hid (show PB w B g d wv c mb fg fd q Q QA E I x ba bc w2 from ⟨⟨S1.out.slab.chg C2.out (fun k hk hm => by rw [List.mem_singleton] at hk; subst hk; exact HS.out.apart _ (by simp) hm), S2.out, HS.out.apart, HS.out.q⟩,
    (HB.out.below B1.out).keep C2.out (fun k hk => HQA.out k (HCS.out k hk)) (fun _ h => h), X1.out.keep C2.out (by rw [List.mem_singleton]; have := HQQ.out; omega), (Chg.of_below _ B1.out).trans (C2.out.mono fun k hk => .inl (HCS.out k hk)), by have := HQQ.out; omega⟩)
  have hrt := hid (right_calls w2 QA x ba x.blobs.length bc P2.out.bl hj hv hc)
  obtain ⟨rr, hrr⟩ : ∃ rr, rightI x = rr := ⟨_, rfl⟩
  rw [hrr] at hrt
  have HRR := hid hrr
  unfold imgV at hrt
  clear hrr S1 S2 C2 hrd X1 B1 hz1
  go_upto_region 5 with (first | (refine wpList_load_blk (o := ⟨some 19, _, _, _, _, _⟩) 36 (.tmp 3) rfl rfl q _ 36 rfl P2.out.own ⟨_, Tryd.underlying36, rfl⟩ (by kernel_rfl) ?_) | (go_at_call 51; refine hrt.out.mono ?_; rintro e w3 ⟨rfl, hb3⟩; have P3 := hid (P2.out.below hb3); clear hb3; dsimp only))
  by_cases h0 : rr = 0
  case neg =>
    have h0' : ¬ ((rr : Int) = 0) := by omega
    go_wp2_with fail
    go_ret
    exact StTo.same P3.out.st P3.out.chg (by rw [← HR0.out]; unfold putI; rw [if_neg HDN.out, if_pos (by rw [HRR.out]; exact h0), HRR.out])
  subst h0
  have HZ := hid (right_zero HRR.out)
  clear hrt P2
  have hfd := P3.out.st.sto.find x.job
  obtain ⟨r, hr⟩ : ∃ r, E.find? (fun e => e.key == x.job) = r := ⟨_, rfl⟩
  rw [hr] at hfd
  have HF := hid hr
  have HFD := hid hfd
  clear hr hfd
  go_upto_region 7 with fail
  have c4 := P3.out.st.sto.own.get 4 rfl
  have q0 := P3.out.own.get 0 rfl
  have MKS := hid fun (W : World) (hW : Below w3.heap.size w3 W) => (show (W.cell? ⟨c, 4, none⟩ = some (.map (some mb)) ∧ W.cell? ⟨q, 0, none⟩ = some (.int .u32 (x.job : Int)) ∧ W.heap[mb]? = w3.heap[mb]? ∧ Below w3.heap.size w3 W) from ⟨cell_later hW c4, cell_later hW q0, hW.block _ (P3.out.st.sto.lt mb (by simp)).2, hW⟩)
  have SB := hid fun (W : World) (h : (W.cell? ⟨c, 4, none⟩ = some (.map (some mb)) ∧ W.cell? ⟨q, 0, none⟩ = some (.int .u32 (x.job : Int)) ∧ W.heap[mb]? = w3.heap[mb]? ∧ Below w3.heap.size w3 W)) => h.2.2
  go_cut [7, 8] from 14 to 33 (fun v7 v8 w' => HadTo w3 r v7 v8 w')
  case first =>
    cases r with
    | none =>
      have hLk : ∀ W : World, W.heap[mb]? = w3.heap[mb]? → (Instr.lookup 90 (.map (some mb)) (.int .u32 (x.job : Int)) true).run Tryd.prog W = .ok (.tuple #[.agg #[.int .u32 0, .int .u32 0, .int .i64 0, .slice none 0 0, .slice none 0 0], .bool false]) W := by
        intro W hW
        obtain ⟨D, h1, h2⟩ := P3.out.st.sto.map
        have := look_run h1 h2 hW hj
        rw [HF.out] at this
        exact this
      go_region_held3 (fun W => (W.cell? ⟨c, 4, none⟩ = some (.map (some mb)) ∧ W.cell? ⟨q, 0, none⟩ = some (.int .u32 (x.job : Int)) ∧ W.heap[mb]? = w3.heap[mb]? ∧ Below w3.heap.size w3 W))
        ((refine MKS.out _ ?_; first | with_reducible exact below_drew _ | with_reducible exact (SB.out _ (by assumption)).2 | with_reducible exact (SB.out _ (by assumption)).2.trans ((below_alloc _ _).mono (SB.out _ (by assumption)).2.size) | with_reducible exact (below_alloc _ _).trans ((below_drew _).mono (below_alloc _ _).size)))
        ((rw [hLk _ (SB.out _ (by assumption)).1]; go_simp))
      all_goals
        rename_i hH
        clear hH
        clear hLk
        have b4 := below_alloc w3 (.cells #[.int .u32 0, .int .u32 0, .int .i64 0, .slice none 0 0, .slice none 0 0] 100)
        have b5 := b4.trans ((below_drew (w3.alloc (.cells #[.int .u32 0, .int .u32 0, .int .i64 0, .slice none 0 0, .slice none 0 0] 100))).mono b4.size)
        have x5 : Blk _ w3.heap.size #[.int .u32 0, .int .u32 0, .int .i64 0, .slice none 0 0, .slice none 0 0].toList 100 := (blk_alloc w3 #[.int .u32 0, .int .u32 0, .int .i64 0, .slice none 0 0, .slice none 0 0].toList 100).below (below_drew _)
        have R : HadTo w3 none (.pointer (some ⟨w3.heap.size, 0, none⟩)) (.bool false) (w3.alloc (.cells #[.int .u32 0, .int .u32 0, .int .i64 0, .slice none 0 0, .slice none 0 0] 100)).drew := ⟨w3.heap.size, rfl, rfl, x5, b5, Nat.le_refl _⟩
        have HR := hid R
        clear R b4 b5 x5
        go_wp2_with fail
        go_meet
        first | exact HR.out | ((repeat apply Exists.intro); refine ⟨HR.out, ?_⟩; and_intros <;> rfl)
    | some e8 =>
      have hLk : ∀ W : World, W.heap[mb]? = w3.heap[mb]? → (Instr.lookup 90 (.map (some mb)) (.int .u32 (x.job : Int)) true).run Tryd.prog W = .ok (.tuple #[.agg #[.int .u32 (e8.x.job : Int), .int .u32 (e8.x.ver : Int), .int .i64 e8.x.credit, .slice (some ⟨e8.bb, e8.bo, none⟩) e8.x.blobs.length e8.bc, .slice (some ⟨e8.ab, e8.ao, none⟩) e8.x.at'.length e8.ac], .bool true]) W := by
        intro W hW
        obtain ⟨D, h1, h2⟩ := P3.out.st.sto.map
        have := look_run h1 h2 hW hj
        rw [HF.out] at this
        exact this
      go_region_held3 (fun W => (W.cell? ⟨c, 4, none⟩ = some (.map (some mb)) ∧ W.cell? ⟨q, 0, none⟩ = some (.int .u32 (x.job : Int)) ∧ W.heap[mb]? = w3.heap[mb]? ∧ Below w3.heap.size w3 W))
        ((refine MKS.out _ ?_; first | with_reducible exact below_drew _ | with_reducible exact (SB.out _ (by assumption)).2 | with_reducible exact (SB.out _ (by assumption)).2.trans ((below_alloc _ _).mono (SB.out _ (by assumption)).2.size) | with_reducible exact (below_alloc _ _).trans ((below_drew _).mono (below_alloc _ _).size)))
        ((rw [hLk _ (SB.out _ (by assumption)).1]; go_simp))
      all_goals
        rename_i hH
        clear hH
        clear hLk
        have b4 := below_alloc w3 (.cells #[.int .u32 (e8.x.job : Int), .int .u32 (e8.x.ver : Int), .int .i64 e8.x.credit, .slice (some ⟨e8.bb, e8.bo, none⟩) e8.x.blobs.length e8.bc, .slice (some ⟨e8.ab, e8.ao, none⟩) e8.x.at'.length e8.ac] 100)
        have b5 := b4.trans ((below_drew (w3.alloc (.cells #[.int .u32 (e8.x.job : Int), .int .u32 (e8.x.ver : Int), .int .i64 e8.x.credit, .slice (some ⟨e8.bb, e8.bo, none⟩) e8.x.blobs.length e8.bc, .slice (some ⟨e8.ab, e8.ao, none⟩) e8.x.at'.length e8.ac] 100))).mono b4.size)
        have x5 : Blk _ w3.heap.size #[.int .u32 (e8.x.job : Int), .int .u32 (e8.x.ver : Int), .int .i64 e8.x.credit, .slice (some ⟨e8.bb, e8.bo, none⟩) e8.x.blobs.length e8.bc, .slice (some ⟨e8.ab, e8.ao, none⟩) e8.x.at'.length e8.ac].toList 100 := (blk_alloc w3 #[.int .u32 (e8.x.job : Int), .int .u32 (e8.x.ver : Int), .int .i64 e8.x.credit, .slice (some ⟨e8.bb, e8.bo, none⟩) e8.x.blobs.length e8.bc, .slice (some ⟨e8.ab, e8.ao, none⟩) e8.x.at'.length e8.ac].toList 100).below (below_drew _)
        have R : HadTo w3 (some e8) (.pointer (some ⟨w3.heap.size, 0, none⟩)) (.bool true) (w3.alloc (.cells #[.int .u32 (e8.x.job : Int), .int .u32 (e8.x.ver : Int), .int .i64 e8.x.credit, .slice (some ⟨e8.bb, e8.bo, none⟩) e8.x.blobs.length e8.bc, .slice (some ⟨e8.ab, e8.ao, none⟩) e8.x.at'.length e8.ac] 100)).drew := ⟨w3.heap.size, rfl, rfl, x5, b5, Nat.le_refl _⟩
        have HR := hid R
        clear R b4 b5 x5
        go_wp2_with fail
        go_meet
        first | exact HR.out | ((repeat apply Exists.intro); refine ⟨HR.out, ?_⟩; and_intros <;> rfl)
  obtain ⟨q7, rfl, rfl, hx7, hb7, hq7⟩ := hcut
  have H7 := hid (show w.heap.size ≤ q7 from Nat.le_trans P3.out.chg.size hq7)
  clear hq7
  clear c4 q0 MKS SB
  have P4 := hid (P3.out.below hb7)
  have X7 := hid hx7
  clear P3 hx7 hb7
  go_upto_region 8 with fail
  go_cut [42] from 34 to 41 (fun v42 w' => v42 = .bool (staleR x r) ∧ wc = w')
  case first =>
    have p1 := P4.out.own.get 1 rfl
    cases r with
    | none =>
      go_wp2_with fail
      have R : (Value.bool false = .bool (staleR x none) ∧ wc = wc) := ⟨rfl, rfl⟩
      go_meet
      first | exact R | ((repeat apply Exists.intro); refine ⟨R, ?_⟩; and_intros <;> rfl)
    | some e8 =>
      have r1 := X7.out.get 1 rfl
      by_cases hle : x.ver ≤ e8.x.ver
      · have hle' : (x.ver : Int) ≤ (e8.x.ver : Int) := by omega
        have HST := hid (show true = staleR x (some e8) from by unfold staleR; simp [hle])
        clear hle
        go_wp2_with fail
        have R : (Value.bool true = .bool (staleR x (some e8)) ∧ wc = wc) := ⟨by rw [← HST.out], rfl⟩
        go_meet
        first | exact R | ((repeat apply Exists.intro); refine ⟨R, ?_⟩; and_intros <;> rfl)
      · have hle' : ¬ ((x.ver : Int) ≤ (e8.x.ver : Int)) := by omega
        have HST := hid (show false = staleR x (some e8) from by unfold staleR; simp [hle])
        clear hle
        go_wp2_with fail
        have R : (Value.bool false = .bool (staleR x (some e8)) ∧ wc = wc) := ⟨by rw [← HST.out], rfl⟩
        go_meet
        first | exact R | ((repeat apply Exists.intro); refine ⟨R, ?_⟩; and_intros <;> rfl)
  obtain ⟨rfl, rfl⟩ := hcut
  obtain ⟨st, hst⟩ : ∃ st, staleR x r = st := ⟨_, rfl⟩
  rw [hst]
  cases st with
  | true =>
    obtain ⟨y, hy, hle⟩ := staleR_true HFD.out hst
    have HPI := hid (putI_stale HDN.out HRR.out hy hle)
    clear hy hle hst
    go_wp2_with fail
    go_ret
    exact StTo.same P4.out.st P4.out.chg (by rw [← HR0.out, HPI.out])
  | false =>
  have HNW := hid (staleR_false HFD.out hst)
  clear hst
  have h16 := HZ.out.2.2.1.2
  have hb16 : (x.blobs.length : Int) ≤ 16 := by omega
  go_upto_region 10 with fail
  have c5 := P4.out.st.sto.own.get 5 rfl
  have q3 := P4.out.own.get 3 rfl
  have MKS := hid fun (W : World) (hW : Below wc.heap.size wc W) => (show (W.cell? ⟨c, 5, none⟩ = some (.pointer (some ⟨fg, 0, none⟩)) ∧ W.cell? ⟨q, 3, none⟩ = some (.slice ba x.blobs.length bc)) from ⟨cell_later hW c5, cell_later hW q3⟩)
  by_cases hroom : leftM I.used < x.blobs.length + 1
  case pos =>
    have HPI := hid (putI_full HDN.out HRR.out HNW.out hroom)
    have HTK := hid fun (W : World) (hW : Below wc.heap.size wc W) => takeno_calls W fg fd I.used ((x.blobs.length : Int) + 1) (P4.out.st.sto.free.below hW) (.inr (by omega))
    have WR := hid (show IntKind.i64.wrap ((x.blobs.length : Int) + 1) = (x.blobs.length : Int) + 1 from by rw [IntKind.wrap_i64]; omega)
    clear hroom
    go_region_held3 (fun W => (W.cell? ⟨c, 5, none⟩ = some (.pointer (some ⟨fg, 0, none⟩)) ∧ W.cell? ⟨q, 3, none⟩ = some (.slice ba x.blobs.length bc)))
      ((first | (refine MKS.out _ ?_; with_reducible exact below_drew _) | assumption))
      ((go_at_call 52; rw [WR.out]; refine (HTK.out _ (below_drew _)).mono ?_; rintro e w5 ⟨rfl, rfl⟩))
    go_wp2_with fail
    go_ret
    have P5 := P4.out.below (below_drew wc)
    exact StTo.same P5.st P5.chg (by rw [← HR0.out, HPI.out])
  have HTK := hid fun (W : World) (hW : Below wc.heap.size wc W) => take_calls W fg fd I.used (x.blobs.length + 1) (P4.out.st.sto.free.below hW) (by omega)
  have WR := hid (show IntKind.i64.wrap ((x.blobs.length : Int) + 1) = ((x.blobs.length + 1 : Nat) : Int) from by rw [IntKind.wrap_i64]; omega)
  have HRM := hid hroom
  clear hroom
  go_region_held3 (fun W => (W.cell? ⟨c, 5, none⟩ = some (.pointer (some ⟨fg, 0, none⟩)) ∧ W.cell? ⟨q, 3, none⟩ = some (.slice ba x.blobs.length bc)))
    ((first | (refine MKS.out _ ?_; with_reducible exact below_drew _) | exact ⟨P5.out.st.sto.own.get 5 rfl, P5.out.own.get 3 rfl⟩))
    ((go_at_call 52; rw [WR.out]; refine (HTK.out _ (below_drew _)).mono ?_; rintro e w5 ⟨at9, ac9, i9, rfl, hi9, hl9, ho9, hm9, hc9⟩; have P5 := hid ((P4.out.below (below_drew wc)).taken HQA.out HLT.out hi9 hl9 hm9 hc9); have A9 := hid (show RO aV 1 w5 _ 3 (.slice at9 (x.blobs.length + 1) ac9) (takenI I.used (x.blobs.length + 1)) from by rw [taken_is hi9 hl9]; exact ho9); have C9 := hid hc9; clear hi9 hl9 ho9 hm9 hc9))
  clear c5 q3 MKS
  rename_i hH
  clear hH
  have hX := hid (placed_in HZ.out hj hv HRM.out)
  have AL5 := hid (show AL w5 (fun k => QA k ∨ w.heap.size ≤ k) (.slice at9 (x.blobs.length + 1) ac9) (placedI I x).at' from by
    have h0 := A9.out.ownBlock
    have h1 := A9.out.cs
    obtain ⟨a', n', c', e1, e2, _, e3⟩ := h1
    cases e1
    have hsz : w.heap.size ≤ wc.drew.heap.size := Nat.le_trans P4.out.chg.size (below_drew wc).size
    exact ⟨at9, ac9, by rw [show (placedI I x).at'.length = x.blobs.length + 1 from e2], e3, fun y hy => .inr (by subst hy; exact Nat.le_trans hsz (h0 y.block rfl).1)⟩)
  have BL5 := hid (show BL w5 (fun k => QA k ∨ w.heap.size ≤ k) (.slice ba x.blobs.length bc) (placedI I x).blobs from P5.out.bl.wider fun k h => .inl h)
  have hNQ := hid (show ∀ k ∈ slS g d wv, ¬ (QA k ∨ w.heap.size ≤ k) from fun k hk h => by
    have hm : k ∈ stS g d wv c mb fg fd := List.mem_append_left _ hk
    rcases h with h | h
    · exact HQA.out k hm h
    · have := HLT.out k hm; omega)
  have hL5 := hid (show Laid w5 from HL.out.below (P5.out.chg.below HBS.out (fun k hk => HGE.out k hk)) hB0)
  have hwr := hid (iwrite_calls w5 B g d wv c mb fg (fun k => QA k ∨ w.heap.size ≤ k) { I with used := markI I.used (takenI I.used (x.blobs.length + 1)) } (placedI I x) ba x.blobs.length bc at9 (x.blobs.length + 1) ac9 P5.out.st.slab P5.out.st.sto.own BL5.out AL5.out (HS.out.apart c (by simp)) hNQ.out (by show (placedI I x).In (markI I.used _).length; unfold markI; rw [markI_len]; exact hX.out) (fun b hb => HZ.out.2.2.2 b hb) P5.out.st.sto.small P5.out.st.sto.epoch hL5.out hB0 hs hw)
  obtain ⟨⟨s', er⟩, hsw⟩ : ∃ p, writeI I.from' I.epoch (placedI I x) I.sl = p := ⟨_, rfl⟩
  have hwr2 := hid (show Calls Tryd.prog 53 #[.pointer (some ⟨c, 0, none⟩), .agg (imgV x (.slice ba x.blobs.length bc)).toArray, .slice at9 (x.blobs.length + 1) ac9] w5 (SlabTo w5 B g d wv s' er) from by
    have := hwr.out
    dsimp only at this
    rw [hsw] at this
    exact this)
  have HSW := hid hsw
  clear hsw hwr hNQ hL5 BL5
  go_upto_region 14 with (first | (refine wpList_load_blk (o := ⟨some 58, _, _, _, _, _⟩) 36 (.tmp 3) rfl rfl q _ 36 rfl P5.out.own ⟨_, Tryd.underlying36, rfl⟩ (by kernel_rfl) ?_) | (go_at_call 53; refine hwr2.out.mono ?_; rintro e w6 ⟨wv6, rfl, hsl6, hc6, ho6⟩; have S6 := hid (P5.out.st.slabbed HLQ.out hsl6 hc6 ho6); have C6 := hid hc6; have W6 := hid ho6; clear hsl6 hc6 ho6; dsimp only))
  by_cases he0 : er = 0
  case neg =>
    have he0' : ¬ ((er : Int) = 0) := by omega
    have HPI := hid (putI_err HDN.out HRR.out HNW.out HRM.out HSW.out he0)
    have f6 := S6.out.sto.own.free 6
    have c6 := S6.out.sto.own.get 6 rfl
    clear he0 A9 C9 AL5
    go_wp2_with fail
    go_ret
    have cs := chg_setCell w6 c 6 (.bool true)
    rw [show R0 = _ from HR0.out.symm.trans HPI.out]
    have hcc : ∀ k ∈ [c], k ∈ stS g d wv c mb fg fd := HCS.out
    refine ⟨wv6, Q, E, rfl, ⟨S6.out.slab.chg cs (fun k hk hm => by rw [List.mem_singleton] at hk; subst hk; exact S6.out.apart _ (by simp) hm), S6.out.sto.down true cs (S6.out.sto.own.set 6 (.bool true)), S6.out.apart, S6.out.q⟩, (P5.out.chg.trans (C6.out.mono fun k hk => .inl (List.mem_append_left _ hk))).trans (cs.mono fun k hk => .inl (hcc k hk)), fun k hk => ?_, fun k hk => .inl hk⟩
    rcases W6.out k hk with h | h
    · exact .inl h
    · exact .inr (Nat.le_trans P5.out.chg.size h)
  subst he0
  have X6 := hid (((X7.out.below (below_drew wc)).keep C9.out (fun hm => by
    have hm2 : q7 ∈ stS g d wv c mb fg fd := List.mem_append_right _ (by simp only [List.mem_cons, List.not_mem_nil, or_false] at hm ⊢; exact .inr (.inr hm))
    have := HLT.out q7 hm2; have := H7.out; omega)).keep C6.out (fun hm => by have := HLT.out q7 (List.mem_append_left _ hm); have := H7.out; omega))
  have HPI := hid (putI_done HDN.out HRR.out HNW.out HRM.out HSW.out)
  have HRE := hid (show ∀ e, r = some e → e ∈ E from fun e h => List.mem_of_find?_eq_some (by rw [HF.out, h]))
  have AH := hid (hadV_at S6.out.sto.lists HRE.out)
  have HIN := hid (show ∀ p ∈ hadL r, p < I.used.length from fun p hp => by
    cases r with
    | none => cases hp
    | some e => exact (P4.out.st.sto.ok e (HRE.out e rfl)).inn p hp)
  have HLN := hid (show (hadL r).length ≤ 17 from by
    cases r with
    | none => exact Nat.zero_le _
    | some e => have := (P4.out.st.sto.ok e (HRE.out e rfl)); show e.x.at'.length ≤ 17; have h1 := this.at'; have h2 := this.few; omega)
  obtain ⟨ha, hcp, hav⟩ : ∃ a c, hadV r = .slice a (hadL r).length c := by
    obtain ⟨a, c, e, _⟩ := AH.out
    exact ⟨a, c, e⟩
  have x4 := X6.out.get 4 (lookV4 r)
  rw [hav] at x4 AH
  obtain ⟨l, hl⟩ : ∃ l, hadL r = l := ⟨_, rfl⟩
  have HAT := hid (hadL_at HFD.out)
  rw [hl] at x4 AH HIN HLN HAT
  have hln : (l.length : Int) ≤ 17 := by have := HLN.out; omega
  have R0' := hid (show FrRel w6 B g d wv6 c mb fg fd Q E { I with sl := s', used := markI I.used (takenI I.used (x.blobs.length + 1)) } l (.int .i64 0) w6 from ⟨0, rfl, Nat.zero_le _, S6.out, Chg.refl _ _⟩)
  clear hav hl
  go_wp2_with fail
  go_loopw [13, 70] (fun _ jv wr => FrRel w6 B g d wv6 c mb fg fd Q E { I with sl := s', used := markI I.used (takenI I.used (x.blobs.length + 1)) } l jv wr) (fun _ jv _ => l.length - (intOf jv).toNat)
  case atStart => exact R0'.out
  case round =>
    obtain ⟨j, rfl, hj', hst, hcg⟩ := hrel
    have Sj := hid hst
    have Cj := hid hcg
    clear hst hcg x4
    have nQ : ∀ k ∈ [fg, fd], ¬ Q k := fun k hk hq => (S6.out.sto.inQ k hq).2.2 (by simp only [List.mem_cons, List.not_mem_nil, or_false] at hk ⊢; exact .inr (.inr hk))
    have NQ := hid nQ
    clear nQ
    by_cases hlt : j < l.length
    · have hlt' : (j : Int) < (l.length : Int) := by omega
      obtain ⟨ab', ao', rfl, _, hcell⟩ := (AH.out.keep Cj.out NQ.out (fun _ h => h)).at hlt
      have hin := HIN.out (l.getD j 0) (by rw [getD_in hlt]; exact List.getElem_mem hlt)
      obtain ⟨pj, hpj⟩ : ∃ pj, l.getD j 0 = pj := ⟨_, rfl⟩
      rw [hpj] at hcell hin
      have c5 := Sj.out.sto.own.get 5 rfl
      have hM := hid (free_calls _ fg fd _ (pj : Int) Sj.out.sto.free)
      have HPJ := hid hpj
      have HIJ := hid hin
      clear hpj hin
      go_wp2_with (go_at_call 54; refine hM.out.mono ?_; rintro e9 w9 ⟨rfl, hp9, hc9⟩; have P9 := hid hp9; have C9' := hid hc9; clear hp9 hc9)
      have R : FrRel w6 B g d wv6 c mb fg fd Q E { I with sl := s', used := markI I.used (takenI I.used (x.blobs.length + 1)) } l (.int .i64 ((j : Int) + 1)) w9 := by
        have hnl : (freeI (markI I.used (takenI I.used (x.blobs.length + 1))) (l.take j)).length = I.used.length := by unfold freeI markI; rw [markI_len, markI_len]
        have hm2 : freeI (markI I.used (takenI I.used (x.blobs.length + 1))) (l.take (j + 1)) = (markM (freeI (markI I.used (takenI I.used (x.blobs.length + 1))) (l.take j)) (pj : Int) false).1 := by
          rw [free_set (by rw [hnl]; exact HIJ.out), List.take_succ_eq_append_getElem hlt, ← getD_in (d := 0) hlt, HPJ.out]
          unfold freeI
          rw [List.foldl_append]
          rfl
        have hno : ∀ k ∈ [fg, fd], k ∉ slS g d wv6 := fun k hk => Sj.out.apart k (by simp only [List.mem_cons, List.not_mem_nil, or_false] at hk ⊢; exact .inr (.inr hk))
        refine ⟨j + 1, rfl, hlt, ⟨Sj.out.slab.chg C9'.out hno, ?_, Sj.out.apart, Sj.out.q⟩, Cj.out.trans C9'.out⟩
        have h9 := Sj.out.sto.marks (m := freeI (markI I.used (takenI I.used (x.blobs.length + 1))) (l.take (j + 1))) C9'.out (by rw [hm2]; exact P9.out) (by
          show (freeI (markI I.used _) (l.take (j + 1))).length = (freeI (markI I.used _) (l.take j)).length
          unfold freeI; rw [markI_len, markI_len])
        exact h9
      refine ⟨?_, by simp [intOf]; omega⟩
      first | exact R | ((repeat apply Exists.intro); refine ⟨R, ?_⟩; and_intros <;> rfl)
    · have hlt' : ¬ ((j : Int) < (l.length : Int)) := by omega
      obtain rfl : j = l.length := by omega
      go_upto_region 22 with fail
      have hns : ∀ k ∈ slS g d wv, k ∈ stS g d wv c mb fg fd := fun k hk => List.mem_append_left _ hk
      have hnf : ∀ k ∈ [fg, fd], k ∈ stS g d wv c mb fg fd := fun k hk => List.mem_append_right _ (by simp only [List.mem_cons, List.not_mem_nil, or_false] at hk ⊢; exact .inr (.inr hk))
      have BLr := hid ((P5.out.bl.keep C6.out (fun k hk => HQA.out k (hns k hk)) (fun _ h => h)).keep Cj.out (fun k hk => HQA.out k (hnf k hk)) (fun _ h => h))
      have Kr := hid ((P5.out.own.keep C6.out (fun hm => by have := HLT.out q (hns q hm); have := P5.out.new; omega)).keep Cj.out (fun hm => by have := HLT.out q (hnf q hm); have := P5.out.new; omega))
      have hsz : w.heap.size ≤ wc.drew.heap.size := Nat.le_trans P4.out.chg.size (below_drew wc).size
      have A5 := hid (show AL w5 (fun k => wc.drew.heap.size ≤ k ∧ k < w5.heap.size) (.slice at9 (x.blobs.length + 1) ac9) (placedI I x).at' from by
        have h0 := A9.out.ownBlock
        obtain ⟨a', n', c', e1, e2, _, e3⟩ := A9.out.cs
        cases e1
        exact ⟨at9, ac9, by rw [show (placedI I x).at'.length = x.blobs.length + 1 from e2], e3, fun y hy => by subst hy; exact h0 y.block rfl⟩)
      have Ar := hid ((A5.out.keep C6.out (fun k hk h => by have := HLT.out k (hns k hk); have := h.1; omega) (fun _ h => h)).keep Cj.out (fun k hk h => by have := HLT.out k (hnf k hk); have := h.1; omega) (fun _ h => h))
      have hpl : (placedI I x).at'.length = x.blobs.length + 1 := hX.out.at'
      obtain ⟨ab9, ao9, rfl, _, _⟩ := A5.out.at (k := 0) (by rw [hpl]; omega)
      have HPL := hid hpl
      have HSZ := hid hsz
      clear hns hnf hpl hsz hlt hj' AL5 A9 A5
      have c4 := Sj.out.sto.own.get 4 rfl
      have q0 := Kr.out.get 0 rfl
      have q1 := Kr.out.get 1 rfl
      have q2 := Kr.out.get 2 rfl
      have q3 := Kr.out.get 3 rfl
      have MKS := hid fun (W : World) (hW : Below wr.heap.size wr W) => (show (W.cell? ⟨c, 4, none⟩ = some (.map (some mb)) ∧ W.cell? ⟨q, 0, none⟩ = some (.int .u32 (x.job : Int)) ∧ W.cell? ⟨q, 1, none⟩ = some (.int .u32 (x.ver : Int)) ∧ W.cell? ⟨q, 2, none⟩ = some (.int .i64 x.credit) ∧ W.cell? ⟨q, 3, none⟩ = some (.slice ba x.blobs.length bc)) from ⟨cell_later hW c4, cell_later hW q0, cell_later hW q1, cell_later hW q2, cell_later hW q3⟩)
      have HC := hid fun (W : World) (hW : Below wr.heap.size wr W) => copy_calls W QA x ba x.blobs.length bc (BLr.out.below hW) (by omega) (fun b hb => by have := HZ.out.2.2.2 b hb; omega)
      obtain ⟨D, hD, hM⟩ := Sj.out.sto.map
      have HD := hid hD
      have HM := hid hM
      have HNN := hid (show Maps.size D < maxLen from by rw [hM.size]; have := Sj.out.sto.len; unfold maxLen; omega)
      clear hD hM
      go_region_held3 (fun W => (W.cell? ⟨c, 4, none⟩ = some (.map (some mb)) ∧ W.cell? ⟨q, 0, none⟩ = some (.int .u32 (x.job : Int)) ∧ W.cell? ⟨q, 1, none⟩ = some (.int .u32 (x.ver : Int)) ∧ W.cell? ⟨q, 2, none⟩ = some (.int .i64 x.credit) ∧ W.cell? ⟨q, 3, none⟩ = some (.slice ba x.blobs.length bc)))
        ((first | (refine MKS.out _ ?_; first | with_reducible exact below_drew _ | with_reducible exact B9.out) | exact MW.out))
        ((first
          | (go_at_call 55; refine (HC.out _ (below_drew _)).mono ?_; rintro e w9 ⟨ts, bv, rfl, hts, htx, hb⟩; have B9 := hid ((below_drew wr).trans (hb.mono (below_drew wr).size)); have TX9 := hid htx; have HTS := hid hts; obtain ⟨a9, n9, c9, hbe, hbn, hbc, hbcs⟩ := htx.rb.cs; subst hbe; have hl9 : ts.length = x.blobs.length := (by rw [← hts, List.length_map]); obtain ⟨bb9, bo9, rfl, _⟩ := hbcs.at (by rw [flat_length tsV 1 tsV_length, hl9]; have := HZ.out.2.2.1.1; omega); obtain rfl : n9 = x.blobs.length := (by omega); unfold imgV; clear hts htx hb hbn hbc hbcs hl9)
          | (obtain ⟨wz, hz, ho, ht⟩ := upd_lit (I := I) (x := x) (bb := bb9) (bo := bo9) (c9 := c9) (ab := ab9) (ao := ao9) (ac := ac9) (ownsMap_keep HD.out (Chg.of_below [] B9.out) (by simp)) HNN.out hj HPL.out; have HO := hid ho; have HT := hid ht; have MW := hid (show (wz.cell? ⟨c, 4, none⟩ = some (.map (some mb)) ∧ wz.cell? ⟨q, 0, none⟩ = some (.int .u32 (x.job : Int)) ∧ wz.cell? ⟨q, 1, none⟩ = some (.int .u32 (x.ver : Int)) ∧ wz.cell? ⟨q, 2, none⟩ = some (.int .i64 x.credit) ∧ wz.cell? ⟨q, 3, none⟩ = some (.slice ba x.blobs.length bc)) from (by have hcw := chg_grown ht.grown; have hS9 := (Sj.out.sto.below B9.out).own.keep hcw (fun hm => by have := Sj.out.sto.apart; simp only [List.nodup_cons, List.mem_cons, List.not_mem_nil, or_false, not_or, Option.mem_toList, Option.some.injEq] at this hm; exact this.1.1 hm.symm); have hq9 := (Kr.out.below B9.out).keep hcw (fun hm => by have h1 := (HS.out.sto.lt mb (by simp)).2; have h2 := P5.out.new; simp only [Option.mem_toList, Option.some.injEq] at hm; omega); exact ⟨hS9.get 4 rfl, hq9.get 0 rfl, hq9.get 1 rfl, hq9.get 2 rfl, hq9.get 3 rfl⟩)); clear ho ht; rw [hz]; go_simp)))
      rename_i hH
      clear hH c4 q0 q1 q2 q3
      go_wp2_with fail
      go_ret
      have hR : R0 = _ := HR0.out.symm.trans HPI.out
      rw [hR, HAT.out]
      have cz := chg_grown HT.out.grown
      have z5 := P5.out.chg.size
      have z56 := C6.out.size
      have z6r := Cj.out.size
      have zrd := (below_drew wr).size
      have zr9 := B9.out.size
      have zc := HSZ.out
      have hat : Ent.At w9 (fun k => (wc.drew.heap.size ≤ k ∧ k < w5.heap.size) ∨ (wr.drew.heap.size ≤ k ∧ k < w9.heap.size)) (⟨placedI I x, bb9, bo9, c9, ab9, ao9, ac9⟩ : Ent) := by
        have h2 : AL w9 (fun k => (wc.drew.heap.size ≤ k ∧ k < w5.heap.size) ∨ (wr.drew.heap.size ≤ k ∧ k < w9.heap.size)) (.slice (some ⟨ab9, ao9, none⟩) (x.blobs.length + 1) ac9) (placedI I x).at' := (Ar.out.below B9.out).wider fun k h => Or.inl h
        refine ⟨?_, (show AL w9 _ (.slice (some ⟨ab9, ao9, none⟩) (placedI I x).at'.length ac9) _ from by rw [HPL.out]; exact h2)⟩
        have := TX9.out.bl
        rw [HTS.out] at this
        exact this.wider fun k h => .inr h
      have hst := (Sj.out.sto.below B9.out).put (en := (⟨placedI I x, bb9, bo9, c9, ab9, ao9, ac9⟩ : Ent)) cz ⟨_, owns_tight HO.out, HM.out.set Sj.out.sto.sorted (⟨placedI I x, bb9, bo9, c9, ab9, ao9, ac9⟩ : Ent)⟩ hat (fun k hk => by
        have hk1 : w.heap.size ≤ k ∧ k < w9.heap.size := by rcases hk with h | h <;> omega
        exact ⟨Nat.le_trans HBS.out hk1.1, hk1.2, fun hm => by have := HLT.out k (List.mem_append_right _ hm); omega⟩) (by
        show (placedI I x).In (freeI (markI I.used (takenI I.used (x.blobs.length + 1))) (l.take l.length)).length
        unfold freeI markI; rw [markI_len, markI_len]; exact hX.out)
      rw [List.take_length] at hst
      have hown : ∀ k, wv6.ownBlock = some k → k ∈ slS g d wv ∨ (w5.heap.size ≤ k ∧ k < w6.heap.size) := fun k hk => by
        rcases W6.out k hk with h | h
        · exact .inl h
        · exact .inr ⟨h, (S6.out.slab.in_ge k (slS_own hk)).2⟩
      refine ⟨wv6, _, _, rfl, ⟨(Sj.out.slab.below B9.out).chg cz (fun k hk hm => Sj.out.apart k (by simp only [Option.mem_toList, Option.some.injEq] at hk; subst hk; simp) hm), hst, Sj.out.apart, fun k hk hq => ?_⟩, ?_, fun k hk => ?_, fun k hk => ?_⟩
      · rcases hq with hq | hq
        · exact Sj.out.q k hk hq
        · have h2 : k ∈ slS g d wv ∨ (w5.heap.size ≤ k ∧ k < w6.heap.size) := by
            rcases slS_mem hk with rfl | rfl | h
            · exact .inl (by simp [slS])
            · exact .inl (by simp [slS])
            · exact hown k h
          rcases h2 with h2 | h2
          · have := HLT.out k (List.mem_append_left _ h2)
            rcases hq with h | h <;> omega
          · rcases hq with h | h <;> omega
      · exact (((P5.out.chg.trans (C6.out.mono fun k hk => .inl (List.mem_append_left _ hk))).trans (Cj.out.mono fun k hk => .inl (List.mem_append_right _ (by simp only [List.mem_cons, List.not_mem_nil, or_false] at hk ⊢; exact .inr (.inr hk))))).trans (Chg.of_below _ B9.out)).trans (cz.mono fun k hk => .inl (List.mem_append_right _ (by simp only [Option.mem_toList, Option.some.injEq] at hk; subst hk; simp)))
      · rcases hown k hk with h | h
        · exact .inl h
        · exact .inr (by omega)
      · rcases hk with h | h
        · exact .inl h
        · exact .inr (by rcases h with h | h <;> omega)
end Go.Proofs.YtoapibbbooongaaDoor
