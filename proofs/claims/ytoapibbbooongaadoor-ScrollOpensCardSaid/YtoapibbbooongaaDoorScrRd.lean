/- What is read of a scroll so far: its state in memory, and its steps. -/
import Derived.Test.YtoapibbbooongaaDoorScrE
import Derived.Test.YtoapibbbooongaaDoorBlkC
namespace Go.Proofs.YtoapibbbooongaaDoor
open Go.RowKit Go.Quad _root_.Quad _root_.Quad.Slab _root_.Quad.Ink

def blkCs7 (h : BlkD) (a : Option Addr) (n c : Nat) : List Value := [.int .u8 (h.kind : Int), .int .u32 (h.epoch : Int), .int .u32 (h.a : Int), .int .u32 (h.b : Int), .slice a n c]
def u8f (c : UInt8) : List Value := [u8v c]
theorem u8f_len (c : UInt8) : (u8f c).length = 1 := rfl
theorem u8f_one (c : UInt8) : ∀ u ∈ u8f c, u.oneCell' = true := by intro u hu; simp only [u8f, List.mem_singleton] at hu; subst hu; rfl
theorem u8f_flat (l : List UInt8) : l.flatMap u8f = l.map u8v := (List.map_eq_flatMap ..).symm
theorem ob_ro {w : World} {base : Nat} {e : TypeId} {v : Value} {l : List UInt8} : OB w base e v l ↔ RO u8f 1 w base e v l := by unfold OB RO; rw [u8f_flat]
/-- what a block got lies as -/
def BlMid7 (w : World) (r : BlkD × Nat) (v10 v11 : Value) (w' : World) : Prop := ∃ q a n p, v10 = .pointer (some ⟨q, 0, none⟩) ∧ v11 = .int .i64 (r.2 : Int) ∧ Blk w' q (blkCs7 r.1 a n p) 96 ∧ r.1.data.length = n ∧ BS w' a p r.1.data ∧ (∀ x, a = some x → w.heap.size ≤ x.block ∧ x.block < w'.heap.size) ∧ w.heap.size ≤ q ∧ Below w.heap.size w w'
theorem below_setNew7 {n : Nat} {w W : World} {b i : Nat} {v : Value} (h : Below n w W) (hb : n ≤ b) (hs : n ≤ w.heap.size := by omega) : Below n w (W.setCell ⟨b, i, none⟩ v) := h.trans ((chg_setCell W b i v).below (Nat.le_trans hs h.size) fun k hk => by rw [List.mem_singleton] at hk; subst hk; exact hb)
/-- what is read so far -/
structure RdSt (w3 w : World) (q b : Nat) (g : Nat) (c : Scr) (k : Nat) (r : Rd) (pv sv rv : Value) (ts : List TS) (be : Nat) : Prop where
  own : Blk w q (scrV g { c with next := r.next, down := false } sv rv) 138
  bat : Blk w b [pv, .int .u32 (be : Int), .int .i64 ((k - r.next : Nat) : Int)] 173
  be : be < 4294967296 ∧ (r.next < k → be = r.epoch)
  le : r.next ≤ k
  p : OB w w3.heap.size 5 pv r.p
  snap : TX w (fun x => w3.heap.size ≤ x ∧ x < w.heap.size ∧ pv.ownBlock ≠ some x ∧ rv.ownBlock ≠ some x) sv ((r.out.headD []).headD [])
  recs : ts.map TS.p = (r.out.drop 1).flatten
  tx : Texts w3 w ts rv
  tn : ∀ t ∈ ts, ∀ x, t.a = some x → pv.ownBlock ≠ some x.block
  ne : ∀ x, pv.ownBlock = some x → rv.ownBlock ≠ some x
  chg : Chg [q, b] w3 w
  small : ((r.out.headD []).headD []).length ≤ 1000000 ∧ ∀ t ∈ ts, t.p.length ≤ 1000000
  few : ts.length ≤ 104 * r.next ∧ (r.next = 0 ↔ r.out.length = 0) ∧ r.epoch < 4294967296 ∧ r.p.length ≤ 104 * (k - r.next)
def RlRel (w3 : World) (q b g : Nat) (c : Scr) (ev kv : Value) (wr : World) : Prop :=
  ∃ (k : Nat) (r : Rd) (pv sv rv : Value) (ts : List TS) (be : Nat), kv = .int .i64 (k : Int) ∧ ev = .int .u32 (r.epoch : Int) ∧ k ≤ c.size ∧ readGo (seeA c.sl c.size c.root.area) c.root.gen (c.size - k) k r = readS c.sl c.size c.root ∧ RdSt w3 wr q b g c k r pv sv rv ts be
def sc0 (s : Sl) (size : Nat) (r : RootD) : Scr := ⟨s, size, r, 0, [], [], false⟩
def scR (s : Sl) (size : Nat) (r : RootD) : Scr := ⟨s, size, r, (readS s size r).next, ((readS s size r).out.headD []).headD [], ((readS s size r).out.drop 1).flatten, false⟩
def SReadTo (w : World) (B g q : Nat) (s : Sl) (size : Nat) (r : RootD) (e : Ending) (w' : World) : Prop :=
  Chg [q] w w' ∧ ((e = .returned (.int .i64 4) ∧ (readS s size r).out.length = 0) ∨ (e = .returned (.int .i64 0) ∧ (readS s size r).out.length ≠ 0 ∧ ∃ Q sv rv ts, IsScr w' B g q Q sv rv ts (scR s size r) ∧ (∀ k, Q k → w.heap.size ≤ k) ∧ ∀ k, rv.ownBlock = some k → w.heap.size ≤ k))
theorem getB_on {s : Sl} {i : Nat} (hi : i < s.done.length) (ho : s.off = false) : (getB s (i : Int)).2 ≠ 13 := by
  rw [getB_at hi ho]
  rcases readB_err (seenL s i) with h | h | h | h <;> rw [h] <;> decide
theorem textS_small (s : St) : (textS s).1.length ≤ s.1.length := by
  have h := numS_len s
  unfold textS
  split
  · simp
  · split
    · simp
    · dsimp only; rw [List.length_take]; omega
theorem textS_rest (s : St) : (textS s).2.1.length ≤ s.1.length := by
  have h := numS_len s
  unfold textS
  split
  · exact h
  · split
    · simp [failS]
    · dsimp only; rw [List.length_drop]; omega
theorem splitGo_small : ∀ (k : Nat) (s : St) (out : List Bytes) (N : Nat), s.1.length ≤ N → (∀ t ∈ out, t.length ≤ N) → ∀ t ∈ (splitGo k s out).1, t.length ≤ N
  | 0, s, out, N, _, h => h
  | k + 1, s, out, N, hs, h => by
    unfold splitGo
    split
    · exact h
    · refine splitGo_small k _ _ N (Nat.le_trans (textS_rest s) hs) fun t ht => ?_
      rcases List.mem_append.1 ht with ht | ht
      · exact h t ht
      · rw [List.mem_singleton] at ht; subst ht; exact Nat.le_trans (textS_small s) hs
theorem splitL_small (p : Bytes) : ∀ t ∈ (splitL p).1, t.length ≤ p.length := splitGo_small _ _ _ _ (Nat.le_refl _) (by simp)
theorem splitGo_len : ∀ (k : Nat) (s : St) (out : List Bytes), (splitGo k s out).1.length ≤ out.length + k
  | 0, s, out => Nat.le_refl _
  | k + 1, s, out => by
    unfold splitGo
    split
    · show out.length ≤ _; omega
    · refine Nat.le_trans (splitGo_len k (textS s).2 (out ++ [(textS s).1])) ?_
      rw [List.length_append, List.length_singleton]
      omega
theorem splitL_len (p : Bytes) : (splitL p).1.length ≤ p.length := by
  have := splitGo_len p.length (p, false) []
  simp only [List.length_nil, Nat.zero_add] at this
  exact this
theorem RdSt.row_ge {w3 w : World} {q b g : Nat} {c : Scr} {k : Nat} {r : Rd} {pv sv rv : Value} {ts : List TS} {be : Nat} (h : RdSt w3 w q b g c k r pv sv rv ts be) : ∀ x, rv.ownBlock = some x → w3.heap.size ≤ x := fun x hx => (h.tx.rb.ownBlock x hx).1
/-- nothing that lies is changed -/
theorem RdSt.below {w3 w w' : World} {q b g : Nat} {c : Scr} {k : Nat} {r : Rd} {pv sv rv : Value} {ts : List TS} {be : Nat} (h : RdSt w3 w q b g c k r pv sv rv ts be) (hb : Below w.heap.size w w') : RdSt w3 w' q b g c k r pv sv rv ts be :=
  have hc : Chg [] w w' := Chg.of_below [] hb
  ⟨h.own.below hb, h.bat.below hb, h.be, h.le, ob_ro.2 ((ob_ro.1 h.p).chg hc (by simp)), h.snap.keep hc (by simp) (fun x hx => ⟨hx.1, Nat.lt_of_lt_of_le hx.2.1 hb.size, hx.2.2⟩), h.recs, h.tx.keep hc (by simp), h.tn, h.ne, chg_next h.chg hc (by simp), h.small, h.few⟩
/-- a block's bytes more -/
theorem RdSt.goes {w3 w w' : World} {q b g : Nat} {c : Scr} {k : Nat} {r : Rd} {pv sv rv pv' : Value} {ts : List TS} {be : Nat} {d : Bytes} {ep : Nat} (h : RdSt w3 w q b g c k r pv sv rv ts be) (hc : Chg (b :: pv.ownBlock.toList) w w') (hq : q < w3.heap.size) (hbq : q ≠ b) (hb : b < w3.heap.size)
    (hbat : Blk w' b [pv', .int .u32 (ep : Int), .int .i64 (((k - r.next : Nat) : Int) + 1)] 173) (hp : RO u8f 1 w' w3.heap.size 5 pv' (r.p ++ d)) (hv : ∀ x, pv'.ownBlock = some x → pv.ownBlock = some x ∨ w.heap.size ≤ x) (hep : ep < 4294967296) (hd : d.length ≤ 104) :
    RdSt w3 w' q b g c (k + 1) ⟨r.next, ep, r.p ++ d, r.out⟩ pv' sv rv ts ep := by
  have hpo : ∀ x, pv.ownBlock = some x → w3.heap.size ≤ x := fun x hx => ((ob_ro.1 h.p).ownBlock x hx).1
  have hro : ∀ x, rv.ownBlock = some x → w3.heap.size ≤ x ∧ x < w.heap.size := h.tx.rb.ownBlock
  have hle := h.le
  refine ⟨h.own.keep hc (fun hm => ?_), ?_, ⟨hep, fun _ => rfl⟩, Nat.le_succ_of_le h.le, ob_ro.2 hp, h.snap.keep hc (fun x hx hQ => ?_) (fun x hx => ⟨hx.1, Nat.lt_of_lt_of_le hx.2.1 hc.size, fun e => ?_, hx.2.2.2⟩), h.recs, ⟨h.tx.rb.chg hc (fun x hx hm => ?_), fun t ht => ⟨bs_keep (h.tx.tx t ht).1 hc (.inr fun x hx hm => ?_), fun x hx => ⟨((h.tx.tx t ht).2 x hx).1, Nat.lt_of_lt_of_le ((h.tx.tx t ht).2 x hx).2.1 hc.size, ((h.tx.tx t ht).2 x hx).2.2⟩⟩⟩, fun t ht x hx e => ?_, fun x hx e => ?_, chg_next h.chg hc (fun x hx => ?_), h.small, ⟨h.few.1, h.few.2.1, hep, ?_⟩⟩
  · rcases List.mem_cons.1 hm with e | hm
    · exact hbq e
    · have := hpo q (by simpa using hm); omega
  · rw [show ((k + 1 - r.next : Nat) : Int) = ((k - r.next : Nat) : Int) + 1 from by omega]
    exact hbat
  · rcases List.mem_cons.1 hx with e | hx
    · have := hQ.1; omega
    · exact hQ.2.2.1 (by simpa using hx)
  · rcases hv x e with e | e
    · exact hx.2.2.1 e
    · have := hx.2.1; omega
  · rcases List.mem_cons.1 hm with e | hm
    · have := (hro x hx).1; omega
    · exact h.ne x (by simpa using hm) hx
  · have h2 := (h.tx.tx t ht).2 x hx
    rcases List.mem_cons.1 hm with e | hm
    · have := h2.1; omega
    · exact h.tn t ht x hx (by simpa using hm)
  · rcases hv _ e with e | e
    · exact h.tn t ht x hx e
    · have := ((h.tx.tx t ht).2 x hx).2.1; omega
  · rcases hv x hx with e' | e'
    · exact h.ne x e' e
    · have := (hro x e).2; omega
  · rcases List.mem_cons.1 hx with e | hx
    · exact .inl (by simp [e])
    · exact .inr (hpo x (by simpa using hx))
  · show (r.p ++ d).length ≤ 104 * (k + 1 - r.next)
    have := h.few.2.2.2
    rw [List.length_append]
    omega
/-- a snapshot was read -/
theorem RdSt.shot {w3 w0 w w' : World} {q b g : Nat} {c : Scr} {k : Nat} {r : Rd} {pv sv rv bv2 : Value} {ts : List TS} {be : Nat} {t : TS} (h : RdSt w3 w0 q b g c k r pv sv rv ts be) (hb : Below w0.heap.size w0 w) (h2 : Texts w0 w [t] bv2) (h3 : w3.heap.size ≤ w0.heap.size) (hc : Chg [q, b] w w') (hq : q < w3.heap.size) (hbl : b < w3.heap.size)
    (hown : Blk w' q (scrV g { c with next := k, down := false } (.slice t.a t.p.length t.c) rv) 138) (hbat : Blk w' b [.slice none 0 0, .int .u32 0, .int .i64 0] 173) (h0 : r.next = 0) (ht : t.p.length ≤ 1000000) (hk : k ≠ 0) :
    RdSt w3 w' q b g c k ⟨k, r.epoch, [], r.out ++ [[t.p]]⟩ (.slice none 0 0) (.slice t.a t.p.length t.c) rv ts 0 := by
  have hro : ∀ x, rv.ownBlock = some x → w3.heap.size ≤ x ∧ x < w0.heap.size := h.tx.rb.ownBlock
  have hout : r.out = [] := List.eq_nil_of_length_eq_zero (h.few.2.1.1 h0)
  have hx : Chg [q, b] w0 w' := (Chg.of_below _ hb).trans hc
  have hS : ∀ x ∈ [q, b], x < w3.heap.size := fun x hx => by
    rcases List.mem_cons.1 hx with e | hx
    · omega
    · rw [List.mem_singleton] at hx; omega
  have hbat' : Blk w' b [.slice none 0 0, .int .u32 ((0 : Nat) : Int), .int .i64 ((k - k : Nat) : Int)] 173 := by rw [Nat.sub_self]; exact hbat
  have hrec := h.recs
  rw [hout] at hrec
  obtain ⟨h2a, h2b⟩ := h2.tx t (List.mem_singleton_self _)
  refine ⟨hown, hbat', ⟨by omega, fun h => absurd h (Nat.lt_irrefl k)⟩, Nat.le_refl _, World.ownsRow_nil _ _ _ _, ⟨t.a, t.c, ?_, ?_, ?_⟩, ?_, h.tx.keep hx hS, fun _ _ _ _ => by simp [Value.ownBlock], fun x hx => by simp [Value.ownBlock] at hx, h.chg.trans hx, ⟨?_, h.small.2⟩, ⟨?_, ?_, h.few.2.2.1, ?_⟩⟩
  · rw [hout]; rfl
  · rw [hout]
    exact bs_keep h2a hc (.inr fun x hx hm => by have := hS _ hm; have := (h2b x hx).1; omega)
  · intro x hx
    have := h2b x hx
    exact ⟨by omega, Nat.lt_of_lt_of_le this.2.1 hc.size, by simp [Value.ownBlock], fun e => by have := (hro _ e).2; omega⟩
  · rw [hout]; exact hrec
  · rw [hout]; exact ht
  · have := h.few.1
    show ts.length ≤ 104 * k
    omega
  · rw [hout]
    exact ⟨fun e => absurd e hk, fun e => by simp at e⟩
  · exact Nat.zero_le _
/-- a batch of records was read -/
theorem RdSt.more {w3 w0 w w5 w' : World} {q b g : Nat} {c : Scr} {k : Nat} {r : Rd} {pv sv rv rv' bv2 : Value} {ts ts2 : List TS} {be : Nat} (h : RdSt w3 w0 q b g c k r pv sv rv ts be) (hb : Below w0.heap.size w0 w) (h2 : Texts w0 w ts2 bv2) (h3 : w3.heap.size ≤ w0.heap.size) (hc5 : Chg rv.ownBlock.toList w w5) (hv : ∀ x, rv'.ownBlock = some x → rv.ownBlock = some x ∨ w.heap.size ≤ x) (hc : Chg [q, b] w5 w') (hq : q < w3.heap.size) (hbl : b < w3.heap.size)
    (hrow : RO tsV 1 w5 w3.heap.size 33 rv' (ts ++ ts2)) (hown : Blk w' q (scrV g { c with next := k, down := false } sv rv') 138) (hbat : Blk w' b [.slice none 0 0, .int .u32 0, .int .i64 0] 173) (h0 : r.next ≠ 0) (ht : ∀ t ∈ ts2, t.p.length ≤ 1000000) (hfew : ts2.length ≤ r.p.length) :
    RdSt w3 w' q b g c k ⟨k, r.epoch, [], r.out ++ [ts2.map TS.p]⟩ (.slice none 0 0) sv rv' (ts ++ ts2) 0 := by
  have hro : ∀ x, rv.ownBlock = some x → w3.heap.size ≤ x ∧ x < w0.heap.size := h.tx.rb.ownBlock
  have hout : r.out.length ≠ 0 := fun e => h0 (h.few.2.1.2 e)
  obtain ⟨o1, os, hos⟩ : ∃ o1 os, r.out = o1 :: os := by
    cases hh : r.out with
    | nil => exact absurd (by rw [hh]; rfl) hout
    | cons a l => exact ⟨a, l, rfl⟩
  have hS : ∀ x ∈ [q, b], x < w3.heap.size := fun x hx => by
    rcases List.mem_cons.1 hx with e | hx
    · omega
    · rw [List.mem_singleton] at hx; omega
  have hle := h.le
  have hc05 : Chg rv.ownBlock.toList w0 w5 := (Chg.of_below _ hb).trans hc5
  have hs5 := hc5.size
  have hs := hc.size
  have hb0 := hb.size
  have hbat' : Blk w' b [.slice none 0 0, .int .u32 ((0 : Nat) : Int), .int .i64 ((k - k : Nat) : Int)] 173 := by rw [Nat.sub_self]; exact hbat
  have hnew : ∀ t ∈ ts2, ∀ x, t.a = some x → rv'.ownBlock ≠ some x.block := fun t ht x hx e => by
    have := (h2.tx t ht).2 x hx
    rcases hv _ e with e | e
    · have := (hro _ e).2; omega
    · omega
  have hold : ∀ x, x < w0.heap.size → rv.ownBlock ≠ some x → rv'.ownBlock ≠ some x := fun x hx hn e => by
    rcases hv _ e with e | e
    · exact hn e
    · omega
  have hcx : Chg (q :: b :: rv.ownBlock.toList) w0 w' := (hc05.mono fun x hx => .inl (by simp only [List.mem_cons]; exact .inr (.inr hx))).trans (hc.mono fun x hx => .inl (by
    rcases List.mem_cons.1 hx with e | hx
    · simp [e]
    · rw [List.mem_singleton] at hx; simp [hx]))
  have hin : ∀ x ∈ q :: b :: rv.ownBlock.toList, x < w3.heap.size ∨ rv.ownBlock = some x := fun x hx => by
    rcases List.mem_cons.1 hx with e | hx
    · exact .inl (by omega)
    rcases List.mem_cons.1 hx with e | hx
    · exact .inl (by omega)
    · exact .inr (by simpa using hx)
  have hsn := h.snap
  have hrec := h.recs
  have hsm := h.small
  rw [hos] at hsn hrec hsm
  refine ⟨hown, hbat', ⟨by omega, fun h => absurd h (Nat.lt_irrefl k)⟩, Nat.le_refl _, World.ownsRow_nil _ _ _ _, ?_, ?_, ⟨hrow.chg hc (fun x hx hm => ?_), fun t hm => ?_⟩, fun _ _ _ _ => by simp [Value.ownBlock], fun x hx => by simp [Value.ownBlock] at hx, ?_, ⟨?_, fun t hm => ?_⟩, ⟨?_, ?_, h.few.2.2.1, ?_⟩⟩
  · rw [hos]
    refine hsn.keep hcx (fun x hx hQ => ?_) (fun x hQ => ⟨hQ.1, by omega, by simp [Value.ownBlock], hold x hQ.2.1 hQ.2.2.2⟩)
    rcases hin x hx with e | e
    · have := hQ.1; omega
    · exact hQ.2.2.2 e
  · rw [hos]
    simp only [List.cons_append, List.drop_succ_cons, List.drop_zero, List.flatten_append, List.flatten_cons, List.flatten_nil, List.append_nil, List.map_append]
    rw [hrec]
    rfl
  · have := hS x hm
    have := (hrow.ownBlock x hx).1
    omega
  · rcases List.mem_append.1 hm with hm | hm
    · obtain ⟨h1, h4⟩ := h.tx.tx t hm
      refine ⟨bs_keep h1 hcx (.inr fun x hx hi => ?_), fun x hx => ⟨(h4 x hx).1, by have := (h4 x hx).2.1; omega, hold _ (h4 x hx).2.1 (h4 x hx).2.2⟩⟩
      rcases hin _ hi with e | e
      · have := (h4 x hx).1; omega
      · exact (h4 x hx).2.2 e
    · obtain ⟨h1, h4⟩ := h2.tx t hm
      refine ⟨bs_keep (bs_keep h1 hc5 (.inr fun x hx hi => ?_)) hc (.inr fun x hx hi => ?_), fun x hx => ⟨by have := (h4 x hx).1; omega, by have := (h4 x hx).2.1; omega, hnew t hm x hx⟩⟩
      · have := (hro x.block (by simpa using hi)).2
        have := (h4 x hx).1
        omega
      · have := hS _ hi
        have := (h4 x hx).1
        omega
  · refine chg_next h.chg hcx fun x hx => ?_
    rcases List.mem_cons.1 hx with e | hx
    · exact .inl (by simp [e])
    rcases List.mem_cons.1 hx with e | hx
    · exact .inl (by simp [e])
    · exact .inr (hro x (by simpa using hx)).1
  · rw [hos]; exact hsm.1
  · rcases List.mem_append.1 hm with hm | hm
    · exact hsm.2 t hm
    · exact ht t hm
  · have h1 := h.few.1
    have h2 := h.few.2.2.2
    show (ts ++ ts2).length ≤ 104 * k
    rw [List.length_append]
    omega
  · rw [hos]
    have h1 : k ≠ 0 := by omega
    exact ⟨fun e => absurd e h1, fun e => by simp at e⟩
  · exact Nat.zero_le _
/-- behind the last block -/
theorem RdSt.fin {w w1 wr : World} {B q b g : Nat} {s : Sl} {size : Nat} {r : RootD} {k : Nat} {rd : Rd} {pv sv rv : Value} {ts : List TS} {be : Nat} (h : RdSt w1 wr q b g (sc0 s size r) k rd pv sv rv ts be) (hw : Below w.heap.size w w1) (hb : w.heap.size ≤ b) (hB : B ≤ q) (hq : q < w.heap.size) (hk : k ≤ size) (hr : r.Ok) (har : r.area ≤ 1) (hz : size ≤ 4096) (he : rd.next = (readS s size r).next ∧ rd.out = (readS s size r).out) :
    Chg [q] w wr ∧ (rd.next ≠ 0 → ∃ Q sv rv ts, IsScr wr B g q Q sv rv ts (scR s size r) ∧ (∀ k, Q k → w.heap.size ≤ k) ∧ ∀ k, rv.ownBlock = some k → w.heap.size ≤ k) := by
  have hc : Chg [q] w wr := chg_next (Chg.of_below [q] hw) h.chg fun x hx => by
    rcases List.mem_cons.1 hx with rfl | hx
    · exact .inl (by simp)
    · rw [List.mem_singleton] at hx; subst hx; exact .inr hb
  refine ⟨hc, fun hn => ⟨fun x => w1.heap.size ≤ x ∧ x < wr.heap.size ∧ pv.ownBlock ≠ some x ∧ rv.ownBlock ≠ some x, sv, rv, ts, ?_, fun x hx => Nat.le_trans hw.size hx.1, fun x hx => Nat.le_trans hw.size (h.row_ge x hx)⟩⟩
  have he1 := he.1
  have he2 := he.2
  have hwq : q < w1.heap.size := Nat.lt_of_lt_of_le hq hw.size
  have hown := h.own
  have hsnap := h.snap
  have hrecs := h.recs
  have hsm := h.small.1
  rw [he1] at hown
  rw [he2] at hsnap hrecs hsm
  refine ⟨hown, hB, hsnap, hrecs, h.tx.rb.base' (Nat.le_trans (Nat.le_trans hB (Nat.le_of_lt hq)) hw.size), fun t ht => ⟨(h.tx.tx t ht).1, fun x hx => ⟨((h.tx.tx t ht).2 x hx).1, ((h.tx.tx t ht).2 x hx).2.1, h.tn t ht x hx, ((h.tx.tx t ht).2 x hx).2.2⟩⟩, fun x hx => ⟨by have := hw.size; omega, hx.2.1⟩, fun hx => by have := hx.1; omega, fun x hx => ⟨fun h2 => h2.2.2.2 hx, fun e => by have := h.row_ge x hx; omega⟩, ?_⟩
  have h1 := congrArg List.length hrecs
  rw [List.length_map] at h1
  exact ⟨hz, by show (readS s size r).next ≤ size; rw [← he1]; exact Nat.le_trans h.le hk, hr, har, by show ((readS s size r).out.drop 1).flatten.length ≤ _; rw [← h1]; have := h.few.1; have := h.le; omega, hsm, fun t ht => by
    have ht : t ∈ ((readS s size r).out.drop 1).flatten := ht
    rw [← hrecs] at ht
    obtain ⟨u, hu, rfl⟩ := List.mem_map.1 ht
    exact h.small.2 u hu⟩
theorem getB_short (s : Sl) (i : Int) : (getB s i).1.data.length ≤ 255 := by
  have h : ∀ p, (ofB p).data.length ≤ 255 := fun p => by
    unfold ofB
    dsimp only
    rw [List.length_take]
    have : nB p < 256 := (p.getD 1 0).toNat_lt
    omega
  unfold getB
  split
  · exact Nat.zero_le _
  · unfold readB
    repeat' split
    all_goals first | exact h _ | exact Nat.zero_le _
theorem getB_104 (s : Sl) (i : Int) : (getB s i).1.data.length ≤ 104 := by
  unfold getB readB
  split
  · exact Nat.zero_le _
  · split
    · exact Nat.zero_le _
    · split
      · exact Nat.zero_le _
      · split
        · exact Nat.zero_le _
        · rename_i hn
          show ((List.drop 14 _).take _).length ≤ 104
          rw [List.length_take]
          omega
theorem readGo_step {G : Nat → BlkD × Nat} {gen k n : Nat} {q R : Rd} {b : BlkD} {e : Nat} (hn : 0 < n) (hG : G k = (b, e)) (hg : goodA G gen k q = true) (h : readGo G gen n k q = R) (h2 : b.kind = 2) : readGo G gen (n - 1) (k + 1) ⟨q.next, b.epoch, q.p ++ b.data, q.out⟩ = R := by
  rw [show n = (n - 1) + 1 from by omega] at h
  unfold readGo stepRd at h
  rw [if_pos hg, hG] at h
  dsimp only at h
  rw [if_pos h2] at h
  exact h
theorem readGo_stop {G : Nat → BlkD × Nat} {gen k n : Nat} {q R : Rd} {b : BlkD} {e : Nat} (hn : 0 < n) (hG : G k = (b, e)) (hg : goodA G gen k q = true) (h : readGo G gen n k q = R) (h2 : b.kind ≠ 2) (hs : (splitL (q.p ++ b.data)).2 = false ∨ (q.next = 0 ∧ (splitL (q.p ++ b.data)).1.length ≠ 1)) : q = R := by
  rw [show n = (n - 1) + 1 from by omega] at h
  unfold readGo stepRd at h
  rw [if_pos hg, hG] at h
  dsimp only at h
  rw [if_neg h2, if_pos hs] at h
  exact h
theorem readGo_more {G : Nat → BlkD × Nat} {gen k n : Nat} {q R : Rd} {b : BlkD} {e : Nat} (hn : 0 < n) (hG : G k = (b, e)) (hg : goodA G gen k q = true) (h : readGo G gen n k q = R) (h2 : b.kind ≠ 2) (hs : ¬ ((splitL (q.p ++ b.data)).2 = false ∨ (q.next = 0 ∧ (splitL (q.p ++ b.data)).1.length ≠ 1))) : readGo G gen (n - 1) (k + 1) ⟨k + 1, b.epoch, [], q.out ++ [(splitL (q.p ++ b.data)).1]⟩ = R := by
  rw [show n = (n - 1) + 1 from by omega] at h
  unfold readGo stepRd at h
  rw [if_pos hg, hG] at h
  dsimp only at h
  rw [if_neg h2, if_neg hs] at h
  exact h
theorem run_bytes_at7 (w : World) (g i : Nat) (v : Value) (h : w.cell? ⟨g, i, none⟩ = some v) : (Instr.loadAt 33 (.pointer (some ⟨g, i, none⟩))).run Tryd.prog w = .ok v w := by go_simp
theorem run_u32_at7 (w : World) (g i : Nat) (v : Value) (h : w.cell? ⟨g, i, none⟩ = some v) : (Instr.loadAt 31 (.pointer (some ⟨g, i, none⟩))).run Tryd.prog w = .ok v w := by go_simp
theorem run_int_at7 (w : World) (g i : Nat) (v : Value) (h : w.cell? ⟨g, i, none⟩ = some v) : (Instr.loadAt 3 (.pointer (some ⟨g, i, none⟩))).run Tryd.prog w = .ok v w := by go_simp
theorem wrap_in (x : Int) (h1 : -9223372036854775808 ≤ x) (h2 : x ≤ 9223372036854775807) : IntKind.i64.wrap x = x := by
  rw [IntKind.wrap_i64]
  omega
theorem idx_wrap (a s k : Int) (h0 : 0 ≤ a) (h1 : a ≤ 1) (h2 : 0 ≤ a * s) (h3 : a * s ≤ 4096) (h4 : 0 ≤ k) (h5 : k ≤ 4096) : IntKind.i64.wrap (IntKind.i64.wrap (2 + IntKind.i64.wrap (IntKind.i64.wrap a * s)) + k) = 2 + a * s + k := by
  rw [wrap_in a (by omega) (by omega)]
  generalize a * s = m at h2 h3
  rw [wrap_in m (by omega) (by omega), wrap_in (2 + m) (by omega) (by omega), wrap_in (2 + m + k) (by omega) (by omega)]
end Go.Proofs.YtoapibbbooongaaDoor
