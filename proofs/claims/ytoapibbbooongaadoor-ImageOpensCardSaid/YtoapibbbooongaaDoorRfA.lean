/- The document's slab in memory: what it is, a step, the power told, a write. (Several texts in one: RfA, RfB, RfC, RfD, RfE, RfF, PlA.) -/
import Derived.Test.YtoapibbbooongaaDoorSlabE
import Derived.Test.YtoapibbbooongaaDoorZeros
import Derived.Deep.CutRange
import Derived.Test.YtoapibbbooongaaDoorDraws

/- The document's slab in memory: what it is, a step, the power told, a write. -/
namespace Go.Proofs.YtoapibbbooongaaDoor
open Go.RowKit Go.Quad _root_.Quad.Slab

theorem under_secs : Tryd.prog.underlying 34 = some (.slice 33) := by kernel_rfl
theorem under_rways : Tryd.prog.underlying 109 = some (.slice 119) := by kernel_rfl
theorem info_sec : (Tryd.prog.info? 33).map (fun i => (i.zero, i.size, i.bytes)) = some (some (.slice none 0 0), 1, 24) := by kernel_rfl
theorem info_rway : (Tryd.prog.info? 119).map (fun i => (i.zero, i.size, i.bytes)) = some (some (.agg #[.int .i64 0, .slice none 0 0]), 2, 32) := by kernel_rfl

def dD (x : Value × List UInt8) : List Value := [x.1]
def dW (x : Nat × Value × List UInt8) : List Value := [.int .i64 (x.1 : Int), x.2.1]
theorem dD_length (x : Value × List UInt8) : (dD x).length = 1 := rfl
theorem dW_length (x : Nat × Value × List UInt8) : (dW x).length = 2 := rfl

/-- a sector's bytes, apart from what is written -/
def SecAt (w : World) (F : Nat → Prop) (g dn : Nat) (v : Value) (p : List UInt8) : Prop :=
  ∃ b off c, v = .slice (some ⟨b, off, none⟩) 128 c ∧ BS w (some ⟨b, off, none⟩) c p ∧ p.length = 128 ∧ F b ∧ b ≠ g ∧ b ≠ dn

theorem SecAt.keep {S : List Nat} {w w' : World} {F F' : Nat → Prop} {g dn : Nat} {v : Value} {p : List UInt8} (h : SecAt w F g dn v p) (hc : Chg S w w') (hS : ∀ k ∈ S, ¬ F k ∨ k = g ∨ k = dn) (hF : ∀ k, F k → F' k) : SecAt w' F' g dn v p := by
  obtain ⟨b, off, c, e, hb, hl, hf, h1, h2⟩ := h
  refine ⟨b, off, c, e, cs_chg hb hc ?_, hl, hF b hf, h1, h2⟩
  rintro x hx hm
  cases hx
  rcases hS _ hm with h | h | h
  · exact h hf
  · exact h1 h
  · exact h2 h

structure IsRf (w : World) (F : Nat → Prop) (B g dn dc : Nat) (wv : Value) (s : Sl) : Prop where
  own : Blk w g [.slice (some ⟨dn, 0, none⟩) s.done.length dc, wv, .bool s.off, .int .i64 (s.armed : Int), .int .i64 (s.steps : Int)] 111
  don : ∃ LD : List (Value × List UInt8), w.ownsRow B 33 1 (.slice (some ⟨dn, 0, none⟩) s.done.length dc) s.done.length (LD.flatMap dD) ∧ LD.map (·.2) = s.done ∧ ∀ x ∈ LD, SecAt w F g dn x.1 x.2
  way : ∃ (a : Option Addr) (c : Nat) (LW : List (Nat × Value × List UInt8)), wv = .slice a LW.length c ∧ CS w a c 2 (LW.flatMap dW) ∧ LW.length ≤ c ∧ LW.map (fun x => (x.1, x.2.2)) = s.way ∧ (∀ x ∈ LW, SecAt w F g dn x.2.1 x.2.2) ∧ (LW = [] ∨ ∃ b off, a = some ⟨b, off, none⟩ ∧ F b ∧ b ≠ g ∧ b ≠ dn)
  ok : Ok s
  inF : F g ∧ F dn ∧ g ≠ dn
  lt : ∀ k, F k → B ≤ k ∧ k < w.heap.size

theorem cs_chgS {S : List Nat} {w w' : World} {a : Option Addr} {cap sz : Nat} {xs : List Value} (h : CS w a cap sz xs) (hc : Chg S w w') (hs : xs = [] ∨ ∀ x, a = some x → x.block ∉ S) : CS w' a cap sz xs := by
  refine ⟨h.fit, h.max, h.none, ?_⟩
  rcases hs with rfl | hs
  · exact .inl rfl
  · refine h.at'.imp id fun ⟨b, off, e, hh⟩ => ⟨b, off, e, fun i v hv => ?_⟩
    have hv' := hh i v hv
    have hlt := World.block_lt_of_cell? w ⟨b, off + i, none⟩ hv'
    rw [← hv']
    exact World.cell?_of_block (w := w) (hc.block b hlt (hs _ e))

/-- what came since -/
def Fnew (F : Nat → Prop) (n : Nat) (w : World) : Nat → Prop := fun k => F k ∨ (n ≤ k ∧ k < w.heap.size)

/-- nothing of it has changed -/
theorem IsRf.keep {S : List Nat} {w w' : World} {F : Nat → Prop} {B g dn dc : Nat} {wv : Value} {s : Sl} (h : IsRf w F B g dn dc wv s) (hc : Chg S w w') (hS : ∀ k ∈ S, ¬ F k) : IsRf w' F B g dn dc wv s := by
  obtain ⟨LD, h1, h2, h3⟩ := h.don
  obtain ⟨a, c, LW, e1, e2, e3, e4, e5, e6⟩ := h.way
  refine ⟨h.own.keep hc (fun hm => hS _ hm h.inF.1), ⟨LD, ownsRow_chg h1 hc (fun k hk hm => ?_), h2, fun x hx => (h3 x hx).keep hc (fun k hk => .inl (hS k hk)) (fun _ h => h)⟩,
    ⟨a, c, LW, e1, cs_chgS e2 hc ?_, e3, e4, fun x hx => (e5 x hx).keep hc (fun k hk => .inl (hS k hk)) (fun _ h => h), e6⟩, h.ok, h.inF, fun k hk => ⟨(h.lt k hk).1, Nat.lt_of_lt_of_le (h.lt k hk).2 hc.size⟩⟩
  · simp [Value.ownBlock] at hk
    subst hk
    exact hS _ hm h.inF.2.1
  · rcases e6 with rfl | ⟨b, off, rfl, hb, _⟩
    · exact .inl rfl
    · refine .inr ?_
      rintro x ⟨⟩ hm
      exact hS _ hm hb
theorem IsRf.below {w w' : World} {F : Nat → Prop} {B g dn dc : Nat} {wv : Value} {s : Sl} (h : IsRf w F B g dn dc wv s) (hb : Below w.heap.size w w') : IsRf w' F B g dn dc wv s := h.keep (Chg.of_below [] hb) (by simp)

theorem IsRf.wider {w : World} {F F' : Nat → Prop} {B g dn dc : Nat} {wv : Value} {s : Sl} (h : IsRf w F B g dn dc wv s) (hF : ∀ k, F k → F' k) (hl : ∀ k, F' k → B ≤ k ∧ k < w.heap.size) : IsRf w F' B g dn dc wv s := by
  obtain ⟨LD, h1, h2, h3⟩ := h.don
  obtain ⟨a, c, LW, e1, e2, e3, e4, e5, e6⟩ := h.way
  refine ⟨h.own, ⟨LD, h1, h2, fun x hx => (h3 x hx).keep (Chg.refl [] w) (by simp) hF⟩, ⟨a, c, LW, e1, e2, e3, e4, fun x hx => (e5 x hx).keep (Chg.refl [] w) (by simp) hF, e6.imp id fun ⟨b, off, e, hb, h⟩ => ⟨b, off, e, hF b hb, h⟩⟩, h.ok, ⟨hF _ h.inF.1, hF _ h.inF.2.1, h.inF.2.2⟩, hl⟩
theorem IsRf.new {w' : World} {F : Nat → Prop} {B g dn dc : Nat} {wv : Value} {s : Sl} (h : IsRf w' F B g dn dc wv s) (n : Nat) (hn : B ≤ n) : IsRf w' (Fnew F n w') B g dn dc wv s :=
  h.wider (fun k hk => .inl hk) (fun k hk => by rcases hk with hk | hk; exact h.lt k hk; exact ⟨by omega, hk.2⟩)

/-- its fields are stored, done and way stay -/
theorem IsRf.put {w w' : World} {F : Nat → Prop} {B g dn dc : Nat} {wv : Value} {s s' : Sl} (h : IsRf w F B g dn dc wv s) (hc : Chg [g] w w')
    (hB : Blk w' g [.slice (some ⟨dn, 0, none⟩) s.done.length dc, wv, .bool s'.off, .int .i64 (s'.armed : Int), .int .i64 (s'.steps : Int)] 111)
    (hd : s'.done = s.done) (hw : s'.way = s.way) (hok : Ok s') : IsRf w' F B g dn dc wv s' := by
  obtain ⟨LD, h1, h2, h3⟩ := h.don
  obtain ⟨a, c, LW, e1, e2, e3, e4, e5, e6⟩ := h.way
  have hS : ∀ k ∈ [g], ¬ F k ∨ k = g ∨ k = dn := by simp
  have h1' : w'.ownsRow B 33 1 (.slice (some ⟨dn, 0, none⟩) s'.done.length dc) s'.done.length (LD.flatMap dD) := by
    rw [hd]
    refine ownsRow_chg h1 hc (fun k hk hm => ?_)
    simp [Value.ownBlock] at hk
    subst hk
    simp at hm
    exact h.inF.2.2 hm.symm
  refine ⟨by rw [hd]; exact hB, ⟨LD, h1', by rw [hd]; exact h2, fun x hx => (h3 x hx).keep hc hS (fun _ h => h)⟩,
    ⟨a, c, LW, e1, cs_chgS e2 hc ?_, e3, by rw [hw]; exact e4, fun x hx => (e5 x hx).keep hc hS (fun _ h => h), e6⟩, hok, h.inF, fun k hk => ⟨(h.lt k hk).1, Nat.lt_of_lt_of_le (h.lt k hk).2 hc.size⟩⟩
  rcases e6 with rfl | ⟨b, off, rfl, hb, h1, h2⟩
  · exact .inl rfl
  · refine .inr ?_
    rintro x ⟨⟩ hm
    simp at hm
    exact h1 hm

set_option maxHeartbeats 1000000 in
theorem rstep_calls (w : World) (F : Nat → Prop) (B g dn dc : Nat) (wv : Value) (s : Sl) (h : IsRf w F B g dn dc wv s) (hs : s.steps < 1000000) (ho : s.off = false) :
    Calls Tryd.prog 58 #[.pointer (some ⟨g, 0, none⟩)] w fun e w' => e = .returned (.bool (!(stepL s).off)) ∧ IsRf w' F B g dn dc wv (stepL s) ∧ Chg [g] w w' := by
  have c2 := h.own.get 2 rfl
  have c3 := h.own.get 3 rfl
  have c4 := h.own.get 4 rfl
  have f2 := h.own.free 2
  have f3 := h.own.free 3
  have f4 := h.own.free 4
  rw [ho] at c2
  have hss : (s.steps : Int) ≤ 1000000 := by omega
  have has' : (s.armed : Int) ≤ 9223372036854775807 := by have := h.ok.asmall; omega
  have H := hid h
  have Hs := hid hs
  have Ho := hid ho
  clear h hs ho
  have hB0 := (H.out.own.set 4 (.int .i64 ((s.steps : Int) + 1)))
  by_cases h0 : s.armed = 0
  · have e : stepL s = { s with steps := s.steps + 1 } := by unfold stepL; rw [if_neg (by omega), h0]
    have hof : (stepL s).off = false := by rw [e]; exact Ho.out
    rw [hof]
    have h0' : ¬ (0 < (s.armed : Int)) := by omega
    have h1' : ((s.armed : Int) == 1) = false := by rw [beq_eq_false_iff_ne]; omega
    have hput := hid (H.out.put (s' := stepL s) (chg_setCell w g 4 (.int .i64 ((s.steps : Int) + 1))) (by rw [e]; simpa using hB0) (by rw [e]) (by rw [e]) (ok_step H.out.ok Hs.out))
    clear e hof hB0 h0
    go_enter Tryd.func58, Tryd.ntmps58
    go_wp2_with fail
    go_ret
    exact ⟨rfl, hput.out, chg_setCell w g 4 _⟩
  · by_cases h1 : s.armed = 1
    · have e : stepL s = { s with steps := s.steps + 1, armed := 0, off := true } := by unfold stepL; rw [if_pos (by omega), h1]; rfl
      have hof : (stepL s).off = true := by rw [e]
      rw [hof]
      have hB := (hB0.set 2 (.bool true)).set 3 (.int .i64 0)
      have hc : Chg [g] w (((w.setCell ⟨g, 4, none⟩ (.int .i64 ((s.steps : Int) + 1))).setCell ⟨g, 2, none⟩ (.bool true)).setCell ⟨g, 3, none⟩ (.int .i64 0)) :=
        ((chg_setCell w g 4 _).trans (chg_setCell _ g 2 _)).trans (chg_setCell _ g 3 _)
      have hput := hid (H.out.put (s' := stepL s) hc (by rw [e]; simpa using hB) (by rw [e]) (by rw [e]) (ok_step H.out.ok Hs.out))
      have Hc := hid hc
      rw [h1] at c3
      clear e hof hB0 hB h0 hc h1 has'
      go_enter Tryd.func58, Tryd.ntmps58
      go_wp2_with fail
      go_ret
      exact ⟨rfl, hput.out, Hc.out⟩
    · have e : stepL s = { s with steps := s.steps + 1, armed := s.armed - 1, off := false } := by unfold stepL; rw [if_pos (by omega), decide_eq_false h1]
      have hof : (stepL s).off = false := by rw [e]
      rw [hof]
      have h0' : 0 < (s.armed : Int) := by omega
      have h1' : ((s.armed : Int) == 1) = false := by rw [beq_eq_false_iff_ne]; omega
      have hB := hB0.set 3 (.int .i64 ((s.armed : Int) - 1))
      have hc : Chg [g] w ((w.setCell ⟨g, 4, none⟩ (.int .i64 ((s.steps : Int) + 1))).setCell ⟨g, 3, none⟩ (.int .i64 ((s.armed : Int) - 1))) :=
        (chg_setCell w g 4 _).trans (chg_setCell _ g 3 _)
      have hput := hid (H.out.put (s' := stepL s) hc (by rw [e]; simp only [List.set_cons_succ, List.set_cons_zero] at hB; rw [show ((s.armed - 1 : Nat) : Int) = (s.armed : Int) - 1 from by omega]; rw [Ho.out] at hB; simpa using hB) (by rw [e]) (by rw [e]) (ok_step H.out.ok Hs.out))
      have Hc := hid hc
      clear e hof hB0 hB h0 hc h1
      go_enter Tryd.func58, Tryd.ntmps58
      go_wp2_with fail
      go_ret
      exact ⟨rfl, hput.out, Hc.out⟩

end Go.Proofs.YtoapibbbooongaaDoor

/- The document's slab: a write. -/
namespace Go.Proofs.YtoapibbbooongaaDoor
open Go.RowKit Go.Quad _root_.Quad.Slab

/-- what a call leaves that writes to the document's slab -/
def RfTo (w : World) (F : Nat → Prop) (B g dn dc : Nat) (s' : Sl) (r : Nat) (e : Ending) (w' : World) : Prop :=
  ∃ wv', e = .returned (.int .i64 (r : Int)) ∧ IsRf w' (Fnew F w.heap.size w') B g dn dc wv' s' ∧ Chg [g, dn] w w'

theorem nilrput_calls (w : World) (i : Int) (a : Option Addr) (n cap : Nat) : Calls Tryd.prog 18 #[.pointer none, .int .i64 i, .slice a n cap] w fun e w' => e = .returned (.int .i64 6) ∧ w = w' := by
  go_enter Tryd.func18, Tryd.ntmps18
  go_wp2_with fail
  go_ret
  exact ⟨rfl, rfl⟩

theorem rputno_calls (w : World) (F : Nat → Prop) (B g dn dc : Nat) (wv : Value) (s : Sl) (i : Int) (a : Option Addr) (m cap : Nat) (h : IsRf w F B g dn dc wv s) (hi : -9223372036854775808 ≤ i ∧ i ≤ 9223372036854775807) (hm : m ≤ 9223372036854775807) (h0 : hasL s i m ≠ 0) :
    Calls Tryd.prog 18 #[.pointer (some ⟨g, 0, none⟩), .int .i64 i, .slice a m cap] w fun e w' => e = .returned (.int .i64 (hasL s i m : Int)) ∧ w = w' := by
  have c0 := h.own.get 0 rfl
  have c2 := h.own.get 2 rfl
  have hsm := h.ok.small
  clear h
  obtain ⟨done, way, off, armed, steps⟩ := s
  dsimp only at c0 c2 hsm
  unfold hasL at h0 ⊢
  dsimp only at h0 ⊢
  by_cases h1 : i < 0
  · rw [if_pos (.inl h1)]
    clear h0
    go_enter Tryd.func18, Tryd.ntmps18
    go_wp2_with fail
    go_ret
    exact ⟨rfl, rfl⟩
  · have h1' : decide (i < 0) = false := by simpa using h1
    by_cases h2 : (done.length : Int) ≤ i
    · rw [if_pos (.inr h2)]
      clear h0
      go_enter Tryd.func18, Tryd.ntmps18
      go_wp2_with fail
      go_ret
      exact ⟨rfl, rfl⟩
    · rw [if_neg (by omega)] at h0 ⊢
      by_cases h3 : 128 < m
      · rw [if_pos h3]
        have h3' : (128 : Int) < (m : Int) := by omega
        clear h3 h0
        go_enter Tryd.func18, Tryd.ntmps18
        go_wp2_with fail
        go_ret
        exact ⟨rfl, rfl⟩
      · rw [if_neg h3] at h0 ⊢
        have h3' : ¬ ((128 : Int) < (m : Int)) := by omega
        have ho : off = true := by cases off <;> simp at h0 ⊢
        subst ho
        clear h3 h0
        go_enter Tryd.func18, Tryd.ntmps18
        go_wp2_with fail
        go_ret
        exact ⟨rfl, rfl⟩

theorem IsRf.size {w : World} {F : Nat → Prop} {B g dn dc : Nat} {wv : Value} {s : Sl} (h : IsRf w F B g dn dc wv s) : B ≤ w.heap.size := by have := h.lt g h.inF.1; omega

/-- one write more under way -/
theorem rf_wrote {w0 w1 w5 : World} {F : Nat → Prop} {B g dn dc : Nat} {wv : Value} {s1 : Sl} (h : IsRf w1 F B g dn dc wv s1) (h01 : w0.heap.size ≤ w1.heap.size) (hF0 : ∀ k, F k → k < w0.heap.size) (hb : Below w1.heap.size w1 w5)
    (LW : List (Nat × Value × List UInt8)) (hwm : LW.map (fun x => (x.1, x.2.2)) = s1.way) (hws : ∀ x ∈ LW, SecAt w1 F g dn x.2.1 x.2.2)
    (k : Nat) (p : List UInt8) (a4 : Option Addr) (c4 : Nat) (hp : p.length = 128) (h4 : BS w5 a4 c4 p) (hf4 : ∀ x, a4 = some x → w1.heap.size ≤ x.block ∧ x.block < w5.heap.size)
    (a5 : Option Addr) (c5 : Nat) (h5 : CS w5 a5 c5 2 (LW.flatMap dW ++ dW (k, .slice a4 128 c4, p))) (hle5 : LW.length + 1 ≤ c5) (hf5 : ∀ x, a5 = some x → w1.heap.size ≤ x.block ∧ x.block < w5.heap.size)
    (hok : Ok { s1 with way := s1.way ++ [(k, p)] }) :
    IsRf (w5.setCell ⟨g, 1, none⟩ (.slice a5 (LW.length + 1) c5)) (Fnew F w0.heap.size (w5.setCell ⟨g, 1, none⟩ (.slice a5 (LW.length + 1) c5))) B g dn dc (.slice a5 (LW.length + 1) c5) { s1 with way := s1.way ++ [(k, p)] } := by
  have hgl := h.own.lt
  have hdl := (h.lt _ h.inF.2.1).2
  have hB0 : B ≤ w0.heap.size := by have := (h.lt _ h.inF.1).1; have := hF0 _ h.inF.1; omega
  have hsz : (w5.setCell ⟨g, 1, none⟩ (.slice a5 (LW.length + 1) c5)).heap.size = w5.heap.size := by simp [World.setCell]
  have hch : Chg [g] w5 (w5.setCell ⟨g, 1, none⟩ (.slice a5 (LW.length + 1) c5)) := chg_setCell w5 g 1 _
  have hc : Chg [g] w1 (w5.setCell ⟨g, 1, none⟩ (.slice a5 (LW.length + 1) c5)) := (Chg.of_below [g] hb).trans hch
  have hS : ∀ k ∈ [g], ¬ F k ∨ k = g ∨ k = dn := by simp
  have hFF : ∀ k, F k → Fnew F w0.heap.size (w5.setCell ⟨g, 1, none⟩ (.slice a5 (LW.length + 1) c5)) k := fun k hk => .inl hk
  have hB5 := (h.own.belowAt hb hgl).set 1 (.slice a5 (LW.length + 1) c5)
  simp only [List.set_cons_succ, List.set_cons_zero] at hB5
  obtain ⟨LD, h1, h2, h3⟩ := h.don
  have hnew : ∀ b, w1.heap.size ≤ b → b < w5.heap.size → Fnew F w0.heap.size (w5.setCell ⟨g, 1, none⟩ (.slice a5 (LW.length + 1) c5)) b ∧ b ≠ g ∧ b ≠ dn := fun b h1 h2 => ⟨.inr ⟨by omega, by omega⟩, by omega, by omega⟩
  have hsec : SecAt (w5.setCell ⟨g, 1, none⟩ (.slice a5 (LW.length + 1) c5)) (Fnew F w0.heap.size (w5.setCell ⟨g, 1, none⟩ (.slice a5 (LW.length + 1) c5))) g dn (.slice a4 128 c4) p := by
    obtain ⟨b, off, rfl, _⟩ := CS.at h4 (by simp [hp])
    obtain ⟨q1, q2⟩ := hf4 _ rfl
    obtain ⟨q3, q4, q5⟩ := hnew b q1 q2
    exact ⟨b, off, c4, rfl, cs_chg h4 hch (by rintro x ⟨⟩ hm; simp at hm; exact q4 hm), hp, q3, q4, q5⟩
  refine ⟨hB5, ⟨LD, ownsRow_chg h1 hc (fun k hk hm => ?_), h2, fun x hx => (h3 x hx).keep hc hS hFF⟩, ⟨a5, c5, LW ++ [(k, .slice a4 128 c4, p)], by simp, ?_, by simpa using hle5, by simp [hwm], ?_, .inr ?_⟩, hok, ⟨hFF _ h.inF.1, hFF _ h.inF.2.1, h.inF.2.2⟩, ?_⟩
  · simp [Value.ownBlock] at hk
    subst hk
    simp at hm
    exact h.inF.2.2 hm.symm
  · rw [List.flatMap_append, List.flatMap_singleton]
    refine cs_chgS h5 hch (.inr fun x hx hm => ?_)
    have := hf5 x hx
    simp at hm
    omega
  · intro x hx
    rcases List.mem_append.1 hx with hx | hx
    · exact (hws x hx).keep hc hS hFF
    · rw [List.mem_singleton] at hx; subst hx; exact hsec
  · obtain ⟨b, off, rfl, _⟩ := h5.at (by simp [dW])
    obtain ⟨q1, q2⟩ := hf5 _ rfl
    exact ⟨b, off, rfl, hnew b q1 q2⟩
  · intro q hq
    rcases hq with hq | hq
    · have h1 := h.lt q hq; have := hb.size; exact ⟨h1.1, by rw [hsz]; omega⟩
    · exact ⟨Nat.le_trans hB0 hq.1, hq.2⟩

set_option maxRecDepth 20000 in
set_option maxHeartbeats 1000000 in
theorem rput_calls (w : World) (F : Nat → Prop) (B g dn dc : Nat) (wv : Value) (s : Sl) (i : Int) (a : Option Addr) (cap : Nat) (t : List UInt8) (h : IsRf w F B g dn dc wv s) (hi : -9223372036854775808 ≤ i ∧ i ≤ 9223372036854775807) (ht : BS w a cap t) (hs : s.steps < 1000000) (hw : s.way.length < 1000000)
    (hoff : t = [] ∨ ∀ x, a = some x → x.block ≠ g) (h0 : hasL s i t.length = 0) :
    Calls Tryd.prog 18 #[.pointer (some ⟨g, 0, none⟩), .int .i64 i, .slice a t.length cap] w (RfTo w F B g dn dc (writeL s i t).1 (writeL s i t).2) := by
  have hlt : t.length ≤ 128 := hasL_short h0
  have hin := hasL_in h0
  have ho : s.off = false := by
    unfold hasL at h0
    rw [if_neg (by omega), if_neg (by omega)] at h0
    cases hh : s.off with
    | false => rfl
    | true => rw [hh] at h0; simp at h0
  obtain ⟨k, rfl⟩ : ∃ k : Nat, i = k := ⟨i.toNat, by omega⟩
  have hwl : writeL s (k : Int) t = ({ stepL s with way := s.way ++ [(k, pad t)] }, if (stepL s).off then 13 else 0) := by
    unfold writeL
    rw [if_neg (by rw [h0]; simp), Int.toNat_natCast]
  have hokw := hid (ok_write h.ok hs hw (k := k) (by omega) hlt)
  have Hwl := hid hwl
  have c0 := h.own.get 0 rfl
  have c2 := h.own.get 2 rfl
  rw [ho] at c2
  have mt := ht.max'
  have hlt' : ¬ ((128 : Int) < (t.length : Int)) := by omega
  have hk1 : ¬ ((k : Int) < 0) := by omega
  have hk2 : ¬ ((s.done.length : Int) ≤ (k : Int)) := by omega
  have H := hid h
  have T := hid ht
  have Hoff := hid hoff
  have Hs := hid hs
  have Ho := hid ho
  have Hw := hid hw
  have Hlt := hid hlt
  clear h ht hoff hs ho hwl hw h0 hlt
  go_enter Tryd.func18, Tryd.ntmps18
  go_wp2_with fail
  refine (rstep_calls w F B g dn dc wv s H.out Hs.out Ho.out).mono ?_
  rintro e w1 ⟨rfl, h1, hc1⟩
  clear c0 c2
  have T1 := hid (bs_keep T.out hc1 (Hoff.out.imp id fun h x hx hm => h x hx (by simpa using hm)))
  have H1 := hid h1
  have Hc1 := hid hc1
  obtain ⟨aw, cw, LW, rfl, hwc, hwle, hwm, hws, hwF⟩ := h1.way
  have c1 := h1.own.get 1 rfl
  have f1 := h1.own.free 1
  have hwlen : LW.length = s.way.length := by have := congrArg List.length hwm; rw [List.length_map] at this; exact this
  have Hwm := hid hwm
  have Hws := hid hws
  have Hwlen := hid hwlen
  have Hwc := hid hwc
  have hwle' := hwle
  clear h1 hc1 hwm hws hwF hwlen hwc
  obtain ⟨o, hoo⟩ : ∃ o, (stepL s).off = o := ⟨_, rfl⟩
  rw [hoo]
  have Hoo := hid hoo
  clear hoo
  have hgl : g < w1.heap.size := H1.out.own.lt
  have hw1 : LW.length ≤ 1000000 := by have := Hwlen.out; have := Hw.out; omega
  have e0 := hid (show t ++ List.replicate (128 - t.length) 0 = pad t from rfl)
  have ex : ∀ u ∈ LW.flatMap dW, u.oneCell' = true := by
    intro u hu
    obtain ⟨x, hx, hu⟩ := List.mem_flatMap.1 hu
    simp only [dW, List.mem_cons, List.not_mem_nil, or_false] at hu
    rcases hu with rfl | rfl
    · rfl
    · obtain ⟨b, off, c, e, _⟩ := Hws.out x hx; rw [e]; rfl
  have Ex := hid ex
  clear ex
  go_upto_region 11 with (first
    | (at_builtin; refine wpList_append_litE (.tmp 31) (.tmp 35) _ rfl rfl 119 _ 2 32 info_rway rfl (by decide) under_rways rfl Hwc.out (flat_length dW 2 dW_length LW) hwle' rfl Ex.out (by unfold maxLen; omega) (by omega) ?_; intro v2 w2 hr2 hb2; have R2 := hid hr2; have B2 := hid hb2; clear hr2 hb2)
    | (at_builtin; refine wpList_append_lit0 (.tmp 38) (.tmp 39) _ rfl rfl 5 info_u8 under_bytes rfl (T1.out.below B2.out) t.length rfl rfl (by have := Hlt.out; omega) ?_; intro v3 w3 ho3 hb3; have O3 := hid ho3; have B3 := hid hb3; clear ho3 hb3)
    | (at_builtin; refine wpList_append_zeros_b (.tmp 40) (.tmp 43) 33 3 rfl rfl w2.heap.size 5 .i64 info_u8 under_bytes (by kernel_rfl) _ t O3.out rfl (128 - t.length) (show _ = Value.int .i64 (((128 - t.length : Nat)) : Int) from congrArg (Value.int .i64) (by have := Hlt.out; omega)) (by have := Hlt.out; omega) B3.out.size ?_; intro v4 w4 ho4 hg4 hx4; have B4 := hid (B3.out.trans (grownBy_below hg4 B3.out.size O3.out.ownBlock)); rw [e0.out] at ho4; obtain ⟨a4, c4, e4, hbs4, hof4⟩ := ho4.bs; subst e4; have P4 := hid hbs4; have F4 := hid hof4; clear hbs4 hof4 ho4 hg4 hx4)
    | (at_builtin; refine wpList_append_row (.tmp 36) (.tmp 46) _ rfl rfl w1.heap.size 119 _ 2 32 info_rway rfl (by decide) under_rways v2 LW.length (LW.flatMap dW) rfl (ownsRow_chg (ownsRow_chg R2.out (Chg.of_below [] B4.out) (by simp)) (Chg.of_below [] (below_alloc w4 _)) (by simp)) rfl (news := dW (k, .slice a4 (pad t).length c4, pad t)) rfl (cs_lit w4 (dW (k, .slice a4 (pad t).length c4, pad t)) 119 1 2 rfl (by simp [maxLen])) (Nat.le_refl _) (by intro u hu; simp [dW] at hu; rcases hu with rfl | rfl <;> rfl) (by unfold maxLen; omega) (by omega) (by have := B2.out.size; have := B4.out.size; simp; omega) ?_; intro v5 w5 hr5 hb5 hg5; obtain ⟨a5, c5, e5, hle5, hcs5, hof5⟩ := ownsRow_cs hr5; subst e5; have B5 := hid ((B2.out.trans (B4.out.mono B2.out.size)).trans (((below_alloc w4 (.cells #[.int .i64 (k : Int), .slice a4 (pad t).length c4] 119)).mono (Nat.le_trans B2.out.size B4.out.size)).trans hb5)); have q1 := (H1.out.own.belowAt B5.out hgl).get 1 rfl; have qf := (H1.out.own.belowAt B5.out hgl).free 1; have R5 := hid (And.intro hcs5 (And.intro hle5 hof5)); have P5 := hid (cs_chg (BS.below P4.out (below_alloc w4 _)) (chg_grownBy hg5) (fun x hx hm => by have := (F4.out x hx).2.2.1; have := (World.ownsRow.lt R2.out x.block (by simpa using hm)).2; omega)); have L5 := hid (show w4.heap.size ≤ w5.heap.size from by have := hb5.size; simp at this; omega); clear hg5; clear hr5 hb5 hcs5 hle5 hof5))
  have hpl := pad_length Hlt.out
  have hr := rf_wrote (w0 := w) H1.out Hc1.out.size (fun q hq => (H.out.lt q hq).2) B5.out LW Hwm.out Hws.out k (pad t) a4 c4 hpl P5.out (fun x hx => by have := F4.out x hx; have := L5.out; have := B2.out.size; omega) a5 c5 (by have := R5.out.1; rw [hpl] at this; exact this) R5.out.2.1 (fun x hx => by have := R5.out.2.2 x hx; exact ⟨this.2.2.1, this.2.2.2⟩) hokw.out
  have hfo : Chg [g, dn] w (w5.setCell ⟨g, 1, none⟩ (.slice a5 (LW.length + 1) c5)) := ((Hc1.out.mono (by simp)).trans (Chg.of_below _ B5.out)).trans ((chg_setCell w5 g 1 _).mono (by simp))
  have Hfin := hid (And.intro hr hfo)
  have Hwl2 := hid (show writeL s (k : Int) t = ({ stepL s with way := s.way ++ [(k, pad t)] }, if o then 13 else 0) from Hwl.out.trans (by rw [← Hoo.out]))
  clear hr hfo q1 qf
  cases o
  all_goals
    go_wp2_with fail
    go_ret
    rw [Hwl2.out]
    exact ⟨_, rfl, Hfin.out⟩

/-- a write of the document's, of anything, anywhere -/
theorem rput_any (w : World) (F : Nat → Prop) (B g dn dc : Nat) (wv : Value) (s : Sl) (i : Int) (a : Option Addr) (cap : Nat) (t : List UInt8) (h : IsRf w F B g dn dc wv s) (hi : -9223372036854775808 ≤ i ∧ i ≤ 9223372036854775807) (ht : BS w a cap t) (hs : s.steps < 1000000) (hw : s.way.length < 1000000)
    (hoff : t = [] ∨ ∀ x, a = some x → x.block ≠ g) :
    Calls Tryd.prog 18 #[.pointer (some ⟨g, 0, none⟩), .int .i64 i, .slice a t.length cap] w (RfTo w F B g dn dc (writeL s i t).1 (writeL s i t).2) := by
  by_cases h0 : hasL s i t.length = 0
  · exact rput_calls w F B g dn dc wv s i a cap t h hi ht hs hw hoff h0
  · rw [show writeL s i t = (s, hasL s i t.length) from by unfold writeL; rw [if_pos h0]]
    refine (rputno_calls w F B g dn dc wv s i a t.length cap h hi ht.max' h0).mono ?_
    rintro e w' ⟨rfl, rfl⟩
    exact ⟨wv, rfl, h.new w.heap.size h.size, Chg.refl _ _⟩
end Go.Proofs.YtoapibbbooongaaDoor

/- The document's slab: a read. -/
namespace Go.Proofs.YtoapibbbooongaaDoor
open Go.RowKit Go.Quad _root_.Quad.Slab

theorem nilrget_calls (w : World) (i : Int) : Calls Tryd.prog 97 #[.pointer none, .int .i64 i] w fun e w' => e = .returned (.tuple #[.slice none 0 0, .int .i64 6]) ∧ w = w' := by
  go_enter Tryd.func97, Tryd.ntmps97
  go_wp2_with fail
  go_ret2
  exact ⟨rfl, rfl⟩

theorem rgetno_calls (w : World) (F : Nat → Prop) (B g dn dc : Nat) (wv : Value) (s : Sl) (i : Int) (h : IsRf w F B g dn dc wv s) (hi : -9223372036854775808 ≤ i ∧ i ≤ 9223372036854775807) (h0 : hasL s i 0 ≠ 0) :
    Calls Tryd.prog 97 #[.pointer (some ⟨g, 0, none⟩), .int .i64 i] w fun e w' => e = .returned (.tuple #[.slice none 0 0, .int .i64 (hasL s i 0 : Int)]) ∧ w = w' := by
  have c0 := h.own.get 0 rfl
  have c2 := h.own.get 2 rfl
  have hsm := h.ok.small
  clear h
  obtain ⟨done, way, off, armed, steps⟩ := s
  dsimp only at c0 c2 hsm
  unfold hasL at h0 ⊢
  dsimp only at h0 ⊢
  by_cases h1 : i < 0
  · rw [if_pos (.inl h1)]
    clear h0
    go_enter Tryd.func97, Tryd.ntmps97
    go_wp2_with fail
    go_ret2
    exact ⟨rfl, rfl⟩
  · have h1' : decide (i < 0) = false := by simpa using h1
    by_cases h2 : (done.length : Int) ≤ i
    · rw [if_pos (.inr h2)]
      clear h0
      go_enter Tryd.func97, Tryd.ntmps97
      go_wp2_with fail
      go_ret2
      exact ⟨rfl, rfl⟩
    · rw [if_neg (by omega), if_neg (by omega)] at h0 ⊢
      have ho : off = true := by cases off <;> simp at h0 ⊢
      subst ho
      clear h0
      go_enter Tryd.func97, Tryd.ntmps97
      go_wp2_with fail
      go_ret2
      exact ⟨rfl, rfl⟩

/-- what is seen of a sector, of the first k writes -/
def seenK (s : Sl) (i k : Nat) : Bytes := (s.way.take k).foldl (fun p w => if w.1 = i then w.2 else p) (s.done.getD i [])
theorem seenK_succ (s : Sl) (i k : Nat) (hk : k < s.way.length) : seenK s i (k + 1) = if s.way[k].1 = i then s.way[k].2 else seenK s i k := by
  unfold seenK
  rw [List.take_succ_eq_append_getElem hk, List.foldl_append]; rfl
theorem seenK_all (s : Sl) (i : Nat) : seenK s i s.way.length = seenL s i := by unfold seenK seenL; rw [List.take_length]

def RgRel (s : Sl) (i : Nat) (w : World) (F : Nat → Prop) (g dn : Nat) (pv iv : Value) (wr : World) : Prop :=
  ∃ k : Nat, iv = .int .i64 (k : Int) ∧ k ≤ s.way.length ∧ SecAt w F g dn pv (seenK s i k) ∧ Below w.heap.size w wr

theorem dLD_get {w : World} {F : Nat → Prop} {B g dn dc : Nat} {wv : Value} {s : Sl} (h : IsRf w F B g dn dc wv s) (i : Nat) (hi : i < s.done.length) :
    ∃ v, w.cell? ⟨dn, i, none⟩ = some v ∧ w.frozen? ⟨dn, i, none⟩ = false ∧ SecAt w F g dn v s.done[i] := by
  obtain ⟨LD, h1, h2, h3⟩ := h.don
  have hl : LD.length = s.done.length := by rw [← h2]; simp
  have hx : (LD.flatMap dD)[i]? = some LD[i].1 := by
    have := flat_get dD 1 dD_length LD i 0 LD[i] (List.getElem?_eq_getElem (by omega)) (by decide)
    rw [Nat.mul_one, Nat.add_zero] at this
    rw [this]; rfl
  obtain ⟨q1, q2⟩ := row_at h1 i hi hx
  refine ⟨_, q1, q2, ?_⟩
  have := h3 _ (List.getElem_mem (l := LD) (n := i) (by omega))
  have e : s.done[i] = LD[i].2 := by
    have : (LD.map (·.2))[i]'(by simp; omega) = s.done[i] := by simp only [h2]
    rw [← this]; simp
  rw [e]; exact this

theorem dLW_get {w : World} {F : Nat → Prop} {B g dn dc : Nat} {wv : Value} {s : Sl} (h : IsRf w F B g dn dc wv s) (k : Nat) (hk : k < s.way.length) :
    ∃ b off c v, wv = .slice (some ⟨b, off, none⟩) s.way.length c ∧ w.cell? ⟨b, off + k * 2, none⟩ = some (.int .i64 (s.way[k].1 : Int)) ∧ w.cell? ⟨b, off + k * 2 + 1, none⟩ = some v ∧ SecAt w F g dn v s.way[k].2 := by
  obtain ⟨a, c, LW, rfl, hc, hle, hm, hs, _⟩ := h.way
  have hl : LW.length = s.way.length := by rw [← hm]; simp
  obtain ⟨b, off, rfl, hcell⟩ := cs_row dW_length hc (k := k) (by omega) (by decide)
  have e : s.way[k] = (LW[k].1, LW[k].2.2) := by
    have : (LW.map (fun x => (x.1, x.2.2)))[k]'(by simp; omega) = s.way[k] := by simp only [hm]
    rw [← this]; simp
  refine ⟨b, off, c, LW[k].2.1, by rw [hl], ?_, hcell 1 _ rfl, ?_⟩
  · rw [e]; simpa using hcell 0 _ rfl
  · rw [e]; exact hs _ (List.getElem_mem _)

set_option maxHeartbeats 1000000 in
theorem rget_calls (w : World) (F : Nat → Prop) (B g dn dc : Nat) (wv : Value) (s : Sl) (i : Nat) (h : IsRf w F B g dn dc wv s) (h0 : hasL s i 0 = 0) :
    Calls Tryd.prog 97 #[.pointer (some ⟨g, 0, none⟩), .int .i64 (i : Int)] w (ReadTo w (seenL s i)) := by
  have hin := hasL_in h0
  have ho : s.off = false := by
    unfold hasL at h0
    rw [if_neg (by omega), if_neg (by omega)] at h0
    cases hh : s.off with
    | false => rfl
    | true => rw [hh] at h0; simp at h0
  have c0 := h.own.get 0 rfl
  have c1 := h.own.get 1 rfl
  have c2 := h.own.get 2 rfl
  rw [ho] at c2
  have hsm := h.ok.small
  have hwsm := h.ok.wsmall
  have hk1 : ¬ ((i : Int) < 0) := by omega
  have hk2 : ¬ ((s.done.length : Int) ≤ (i : Int)) := by omega
  have hk3 : (i : Int) < (s.done.length : Int) := by omega
  obtain ⟨v0, d0, _, hs0⟩ := dLD_get h i (by omega)
  obtain ⟨aw, cw, LW, e1, hwc, hwle, hwm, _⟩ := h.way
  have hwlen : LW.length = s.way.length := by rw [← hwm]; simp
  have hwl' : (s.way.length : Int) ≤ 1000000 := by omega
  rw [e1, hwlen] at c1
  have E1 := hid (show wv = .slice aw s.way.length cw from by rw [e1, hwlen])
  have H := hid h
  have S0 := hid (show SecAt w F g dn v0 (seenK s i 0) from by
    unfold seenK; simp [List.getElem?_eq_getElem (show i < s.done.length by omega)]; exact hs0)
  clear h h0 hs0 hwc hwm hwlen e1
  go_enter Tryd.func97, Tryd.ntmps97
  go_wp2_with fail
  clear d0
  go_loopw [6, 38] (fun pv iv wr => RgRel s i w F g dn pv iv wr) (fun _ iv _ => s.way.length - (intOf iv).toNat)
  case atStart => exact ⟨0, rfl, Nat.zero_le _, S0.out, Below.refl _ _⟩
  case round =>
    obtain ⟨k, rfl, hk, hS, hb⟩ := hrel
    have Hb := hid hb
    by_cases hkn : k < s.way.length
    · have hkn' : (k : Int) < (s.way.length : Int) := by omega
      obtain ⟨b, off, c, v, e2, q0, q1, hv⟩ := dLW_get H.out k hkn
      have e3 := E1.out.symm.trans e2
      simp only [Value.slice.injEq] at e3
      obtain ⟨rfl, _, rfl⟩ := e3
      obtain ⟨bv, ofv, cv, rfl, hvr⟩ := hv
      have hv : SecAt w F g dn (.slice (some ⟨bv, ofv, none⟩) 128 cv) s.way[k].2 := ⟨bv, ofv, cv, rfl, hvr⟩
      clear hvr
      have q0 := cell_later hb q0
      have q1 := cell_later hb q1
      have Sx := hid hS
      have Vx := hid hv
      have Sc := hid (seenK_succ s i k hkn)
      clear hS hv hb e2
      generalize s.way[k] = x at q0 Vx Sc
      obtain ⟨at', p⟩ := x
      dsimp only at q0
      by_cases he : at' = i
      · subst he
        have Sn := hid (show SecAt w F g dn (.slice (some ⟨bv, ofv, none⟩) 128 cv) (seenK s at' (k + 1)) from by rw [Sc.out, if_pos rfl]; exact Vx.out)
        have Bn := hid (Hb.out.trans ((below_alloc wr (.cells #[.int .i64 (at' : Int), .slice (some ⟨bv, ofv, none⟩) 128 cv] 119)).mono Hb.out.size))
        have hbe : ((at' : Int) == (at' : Int)) = true := by simp
        go_wp2_with fail
        have R : RgRel s at' w F g dn (.slice (some ⟨bv, ofv, none⟩) 128 cv) (.int .i64 ((k : Int) + 1)) _ := ⟨k + 1, by go_num, by omega, Sn.out, Bn.out⟩
        refine ⟨?_, by simp [intOf]; omega⟩
        first | exact R | ((repeat apply Exists.intro); refine ⟨R, ?_⟩; and_intros <;> rfl)
      · have hbe : ((at' : Int) == (i : Int)) = false := by rw [beq_eq_false_iff_ne]; omega
        have Sn := hid (show SecAt w F g dn u6 (seenK s i (k + 1)) from by rw [Sc.out, if_neg he]; exact Sx.out)
        have Bn := hid (Hb.out.trans ((below_alloc wr (.cells #[.int .i64 (at' : Int), .slice (some ⟨bv, ofv, none⟩) 128 cv] 119)).mono Hb.out.size))
        have He := hid he
        clear he
        go_wp2_with fail
        have R : RgRel s i w F g dn u6 (.int .i64 ((k : Int) + 1)) _ := ⟨k + 1, by go_num, by omega, Sn.out, Bn.out⟩
        refine ⟨?_, by simp [intOf]; omega⟩
        first | exact R | ((repeat apply Exists.intro); refine ⟨R, ?_⟩; and_intros <;> rfl)
    · obtain rfl : k = s.way.length := by omega
      have hkn' : ¬ ((s.way.length : Int) < (s.way.length : Int)) := by omega
      rw [seenK_all] at hS
      obtain ⟨b, off, c, rfl, hbs, hl, _⟩ := hS
      have V := hid (And.intro hbs hl)
      clear hbs hb hl
      go_wp2_with (at_builtin; go_must (refine wpList_append_lit0 (.tmp 49) (.tmp 50) _ rfl rfl 5 info_u8 under_bytes rfl (V.out.1.below Hb.out) 128 V.out.2 rfl (by rw [V.out.2]; omega) ?_; intro v3 w3 ho hb3; have O3 := hid ho; have B3 := hid hb3; clear ho hb3))
      go_ret2
      exact ⟨_, rfl, O3.out.base Hb.out.size, Hb.out.trans (B3.out.mono Hb.out.size)⟩

theorem rget_any (w : World) (F : Nat → Prop) (B g dn dc : Nat) (wv : Value) (s : Sl) (i : Int) (h : IsRf w F B g dn dc wv s) (hi : -9223372036854775808 ≤ i ∧ i ≤ 9223372036854775807) :
    Calls Tryd.prog 97 #[.pointer (some ⟨g, 0, none⟩), .int .i64 i] w (ReadAny w (readL s i).1 (readL s i).2) := by
  by_cases h0 : hasL s i 0 = 0
  · have hin := hasL_in h0
    obtain ⟨k, rfl⟩ : ∃ k : Nat, i = k := ⟨i.toNat, by omega⟩
    rw [show readL s (k : Int) = (seenL s k, 0) from by unfold readL; rw [if_neg (by rw [h0]; simp)]; rfl]
    exact rget_calls w F B g dn dc wv s k h h0
  · rw [show readL s i = ([], hasL s i 0) from by unfold readL; rw [if_pos h0]]
    refine (rgetno_calls w F B g dn dc wv s i h hi h0).mono ?_
    rintro e w' ⟨rfl, rfl⟩
    exact ⟨_, rfl, World.ownsRow_nil _ _ _ _, Below.refl _ _⟩
end Go.Proofs.YtoapibbbooongaaDoor

/- The document's slab: a flush. -/
namespace Go.Proofs.YtoapibbbooongaaDoor
open Go.RowKit Go.Quad _root_.Quad.Slab

theorem run_secl_at (w : World) (g i : Nat) (v : Value) (h : w.cell? ⟨g, i, none⟩ = some v) : (Instr.loadAt 34 (.pointer (some ⟨g, i, none⟩))).run Tryd.prog w = .ok v w := by go_simp
theorem run_bytes_at' (w : World) (g i : Nat) (v : Value) (h : w.cell? ⟨g, i, none⟩ = some v) : (Instr.loadAt 33 (.pointer (some ⟨g, i, none⟩))).run Tryd.prog w = .ok v w := by go_simp
theorem run_sec_store (w : World) (g i : Nat) (old : Value) (a : Option Addr) (n c : Nat) (h : w.cell? ⟨g, i, none⟩ = some old) (hf : w.frozen? ⟨g, i, none⟩ = false) :
    (Instr.storeAt 33 (.pointer (some ⟨g, i, none⟩)) (.slice a n c)).run Tryd.prog w = .ok () (w.setCell ⟨g, i, none⟩ (.slice a n c)) := by go_simp

theorem ok_setsec {s : Sl} {i : Nat} {p : Bytes} (h : Ok s) (hp : p.length = 128) : Ok { s with done := s.done.set i p } := by
  refine ⟨?_, ?_, by simpa using h.small, h.wsmall, h.ssmall, h.asmall⟩
  · intro q hq
    rcases List.mem_or_eq_of_mem_set hq with hq | rfl
    · exact h.sec q hq
    · exact hp
  · intro x hx
    have := h.wsec x hx
    simpa using this

/-- a sector is laid in anew -/
theorem rf_putsec {w1 w2 : World} {F : Nat → Prop} {n0 B g dn dc : Nat} {wv : Value} {s1 : Sl} (h : IsRf w1 (Fnew F n0 w1) B g dn dc wv s1) (hb : Below w1.heap.size w1 w2)
    (i : Nat) (hi : i < s1.done.length) (p : List UInt8) (hp : p.length = 128) {a : Option Addr} {c : Nat} (hv : OB w2 w1.heap.size 5 (.slice a 128 c) p) (h0 : n0 ≤ w1.heap.size := by omega) (hB0 : B ≤ n0 := by omega) :
    IsRf (w2.setCell ⟨dn, i, none⟩ (.slice a 128 c)) (Fnew F n0 (w2.setCell ⟨dn, i, none⟩ (.slice a 128 c))) B g dn dc wv { s1 with done := s1.done.set i p } := by
  have hdl := (h.lt _ h.inF.2.1).2
  have hgl := h.own.lt
  have hsz : (w2.setCell ⟨dn, i, none⟩ (.slice a 128 c)).heap.size = w2.heap.size := by simp [World.setCell]
  have hch : Chg [dn] w2 (w2.setCell ⟨dn, i, none⟩ (.slice a 128 c)) := chg_setCell w2 dn i _
  have hc : Chg [dn] w1 (w2.setCell ⟨dn, i, none⟩ (.slice a 128 c)) := (Chg.of_below [dn] hb).trans hch
  have hS : ∀ k ∈ [dn], ¬ Fnew F n0 w1 k ∨ k = g ∨ k = dn := by simp
  have hFF : ∀ k, Fnew F n0 w1 k → Fnew F n0 (w2.setCell ⟨dn, i, none⟩ (.slice a 128 c)) k := fun k hk => by
    rcases hk with hk | hk
    · exact .inl hk
    · exact .inr ⟨hk.1, by have := hb.size; omega⟩
  obtain ⟨LD, h1, h2, h3⟩ := h.don
  obtain ⟨aw, cw, LW, e1, e2, e3, e4, e5, e6⟩ := h.way
  have hll : LD.length = s1.done.length := by rw [← h2]; simp
  have hr := (row_store (ownsRow_chg h1 (Chg.of_below [] hb) (by simp)) i (.slice a 128 c)).1
  have hfl : (LD.flatMap dD).set i (.slice a 128 c) = (LD.set i (.slice a 128 c, p)).flatMap dD := by
    have := flat_set dD 1 dD_length LD i 0 LD[i] (.slice a 128 c, p) (.slice a 128 c) (List.getElem?_eq_getElem (by omega)) (by decide) rfl
    rwa [Nat.mul_one, Nat.add_zero] at this
  rw [hfl] at hr
  have hsec : SecAt (w2.setCell ⟨dn, i, none⟩ (.slice a 128 c)) (Fnew F n0 (w2.setCell ⟨dn, i, none⟩ (.slice a 128 c))) g dn (.slice a 128 c) p := by
    obtain ⟨a', c', e', hbs, hof⟩ := hv.bs
    rw [hp] at e'
    simp only [Value.slice.injEq] at e'
    obtain ⟨rfl, _, rfl⟩ := e'
    obtain ⟨b, off, rfl, _⟩ := CS.at hbs (by simp [hp])
    obtain ⟨_, _, q1, q2⟩ := hof _ rfl
    dsimp only at q1 q2
    have hne : b ≠ dn := by omega
    exact ⟨b, off, c, rfl, cs_chg hbs hch (by rintro x ⟨⟩ hm; simp at hm; exact hne hm), hp, .inr ⟨by omega, by omega⟩, by omega, hne⟩
  refine ⟨by dsimp only; rw [List.length_set]; exact h.own.keep hc (by simp; exact h.inF.2.2), ⟨LD.set i (.slice a 128 c, p), ?_, ?_, ?_⟩, ⟨aw, cw, LW, e1, cs_chgS e2 hc ?_, e3, e4, fun x hx => (e5 x hx).keep hc hS hFF, e6.imp id fun ⟨b, off, e, hb, h⟩ => ⟨b, off, e, hFF b hb, h⟩⟩, ok_setsec h.ok hp, ⟨hFF _ h.inF.1, hFF _ h.inF.2.1, h.inF.2.2⟩, ?_⟩
  · dsimp only; rw [List.length_set]; exact hr
  · rw [List.map_set, h2]
  · intro x hx
    rcases List.mem_or_eq_of_mem_set hx with hx | rfl
    · exact (h3 x hx).keep hc hS hFF
    · exact hsec
  · rcases e6 with rfl | ⟨b, off, rfl, hb, h1, h2⟩
    · exact .inl rfl
    · refine .inr ?_
      rintro x ⟨⟩ hm
      simp at hm
      exact h2 hm
  · intro k hk
    rcases hk with hk | hk
    · have := h.lt k (.inl hk); have := hb.size; omega
    · exact ⟨by omega, hk.2⟩

def RflRel (s : Sl) (w : World) (F : Nat → Prop) (B g dn dc : Nat) (wv iv : Value) (wr : World) : Prop :=
  ∃ k : Nat, iv = .int .i64 (k : Int) ∧ k ≤ s.way.length ∧ IsRf wr (Fnew F w.heap.size wr) B g dn dc wv { s with done := flD s k } ∧ Chg [g, dn] w wr

theorem nilrflush_calls (w : World) : Calls Tryd.prog 100 #[.pointer none] w fun e w' => e = .returned (.int .i64 6) ∧ w = w' := by
  go_enter Tryd.func100, Tryd.ntmps100
  go_wp2_with fail
  go_ret
  exact ⟨rfl, rfl⟩

/-- the way is done: none is under way -/
theorem rf_clear {wr : World} {F : Nat → Prop} {B g dn dc : Nat} {wv : Value} {s1 : Sl} (h : IsRf wr F B g dn dc wv s1) {w' : World} (hc : Chg [g] wr w') (s2 : Sl) (hd : s2.done = s1.done) (hw : s2.way = []) (hok : Ok s2)
    (hB : Blk w' g [.slice (some ⟨dn, 0, none⟩) s1.done.length dc, .slice none 0 0, .bool s2.off, .int .i64 (s2.armed : Int), .int .i64 (s2.steps : Int)] 111) : IsRf w' F B g dn dc (.slice none 0 0) s2 := by
  obtain ⟨LD, h1, h2, h3⟩ := h.don
  have hS : ∀ k ∈ [g], ¬ F k ∨ k = g ∨ k = dn := by simp
  refine ⟨by rw [hd]; exact hB, ⟨LD, by rw [hd]; exact ownsRow_chg h1 hc (fun k hk hm => by simp [Value.ownBlock] at hk; subst hk; simp at hm; exact h.inF.2.2 hm.symm), by rw [hd]; exact h2, fun x hx => (h3 x hx).keep hc hS (fun _ h => h)⟩,
    ⟨none, 0, [], rfl, ⟨by simp, by simp [maxLen], fun _ => rfl, .inl rfl⟩, Nat.le_refl _, by rw [hw]; rfl, by simp, .inl rfl⟩, hok, h.inF, fun k hk => ⟨(h.lt k hk).1, Nat.lt_of_lt_of_le (h.lt k hk).2 hc.size⟩⟩

set_option maxRecDepth 20000 in
set_option maxHeartbeats 1000000 in
theorem rflush_calls (w : World) (F : Nat → Prop) (B g dn dc : Nat) (wv : Value) (s : Sl) (h : IsRf w F B g dn dc wv s) (hs : s.steps < 1000000) :
    Calls Tryd.prog 100 #[.pointer (some ⟨g, 0, none⟩)] w (RfTo w F B g dn dc (flushL s).1 (flushL s).2) := by
  have c2 := h.own.get 2 rfl
  have H := hid h
  have Hs := hid hs
  have hBw := h.size
  clear h hs
  obtain ⟨o, ho⟩ : ∃ o, s.off = o := ⟨_, rfl⟩
  rw [ho] at c2
  have Ho := hid ho
  clear ho
  cases o
  case true =>
    have e := hid (show flushL s = (s, 13) from by unfold flushL; rw [if_pos Ho.out])
    go_enter Tryd.func100, Tryd.ntmps100
    go_wp2_with fail
    go_ret
    rw [e.out]
    exact ⟨wv, rfl, H.out.new w.heap.size H.out.size, Chg.refl _ _⟩
  case false =>
    obtain ⟨o1, ho1⟩ : ∃ o, (stepL s).off = o := ⟨_, rfl⟩
    have Ho1 := hid ho1
    have St := rstep_calls w F B g dn dc wv s H.out Hs.out Ho.out
    rw [ho1] at St
    have Stx := hid St
    clear ho1 St
    cases o1
    case true =>
      have e := hid (show flushL s = (stepL s, 13) from by unfold flushL; rw [if_neg (by rw [Ho.out]; simp), if_pos Ho1.out])
      go_enter Tryd.func100, Tryd.ntmps100
      go_wp2_with fail
      refine Stx.out.mono ?_
      rintro e w1 ⟨rfl, h1, hc1⟩
      have F1 := hid (And.intro h1 hc1)
      clear h1 hc1
      go_wp2_with fail
      go_ret
      rw [e.out]
      exact ⟨wv, rfl, F1.out.1.new w.heap.size hBw, F1.out.2.mono (by simp)⟩
    case false =>
      have e := hid (show flushL s = ({ stepL s with done := flD (stepL s) (stepL s).way.length, way := [] }, 0) from by
        unfold flushL; rw [if_neg (by rw [Ho.out]; simp), if_neg (by rw [Ho1.out]; simp)]; unfold flD; rw [List.take_length]; rfl)
      generalize stepL s = s1 at e Stx
      clear c2
      go_enter Tryd.func100, Tryd.ntmps100
      have c2 := H.out.own.get 2 rfl
      rw [Ho.out] at c2
      go_wp2_with fail
      refine Stx.out.mono ?_
      rintro e w1 ⟨rfl, h1, hc1⟩
      obtain ⟨aw, cw, LW, e1, _, hwle, hwm, _⟩ := h1.way
      have hwlen : LW.length = s1.way.length := by rw [← hwm]; simp
      have c1 := h1.own.get 1 rfl
      rw [e1, hwlen] at c1
      have E1 := hid (show wv = .slice aw s1.way.length cw from by rw [e1, hwlen])
      have H1 := hid (h1.new w.heap.size hBw)
      have hwsm := h1.ok.wsmall
      have hdsm := h1.ok.small
      have hlen : (s1.way.length : Int) ≤ 1000000 := by omega
      have Hc1 := hid (hc1.mono (T := [g, dn]) (by simp))
      clear h1 hc1 e1 c2 hwm hwlen
      go_wp2_with fail
      clear c1
      go_loopw [21] (fun iv wr => RflRel s1 w F B g dn dc wv iv wr) (fun iv _ => s1.way.length - (intOf iv).toNat)
      case atStart => exact ⟨0, rfl, Nat.zero_le _, by rw [flD_zero]; exact H1.out, Hc1.out⟩
      case round =>
        obtain ⟨k, rfl, hk, hsl, hcw⟩ := hrel
        have S := hid hsl
        have Cw := hid hcw
        clear hsl hcw
        by_cases hkn : k < s1.way.length
        · have hkn' : (k : Int) < (s1.way.length : Int) := by omega
          obtain ⟨b, off, c, v, e2, q0, q1, hv⟩ := dLW_get S.out k hkn
          have e3 := E1.out.symm.trans e2
          simp only [Value.slice.injEq] at e3
          obtain ⟨rfl, _, rfl⟩ := e3
          obtain ⟨bv, ofv, cv, rfl, hvb, hvl, hvF, hvg, hvd⟩ := hv
          have hx := (S.out.ok.wsec _ (List.getElem_mem (l := s1.way) (n := k) hkn))
          have Hfs := hid (flD_succ s1 k hkn)
          dsimp only at q0 hvb hvl
          generalize s1.way[k] = x at q0 hvb hvl hx Hfs
          obtain ⟨at', p⟩ := x
          dsimp only at q0 hvb hvl hx
          have dl : (flD s1 k).length = s1.done.length := flD_length _ _
          have hdl : at' < s1.done.length := by omega
          have Hdl := hid hdl
          have hat : (at' : Int) < (s1.done.length : Int) := by omega
          have Px0 := hid (And.intro hvb hvl)
          clear e2 hvb hvl hvF hvg hvd hx hdl
          go_upto_region 8 with fail
          have Bq := hid (blk_alloc wr [.int .i64 (at' : Int), .slice (some ⟨bv, ofv, none⟩) 128 cv] 119)
          have S3 := hid ((S.out.below (below_alloc wr (.cells #[.int .i64 (at' : Int), .slice (some ⟨bv, ofv, none⟩) 128 cv] 119))).wider (F' := Fnew F w.heap.size (wr.alloc (.cells #[.int .i64 (at' : Int), .slice (some ⟨bv, ofv, none⟩) 128 cv] 119))) (fun q hq => hq.imp id fun h => ⟨h.1, by simp; omega⟩) (fun q hq => by
            rcases hq with hq | hq
            · have := S.out.lt q (.inl hq); simp; omega
            · exact ⟨by omega, hq.2⟩))
          have C3 := hid (Cw.out.trans (Chg.of_below _ (below_alloc wr (.cells #[.int .i64 (at' : Int), .slice (some ⟨bv, ofv, none⟩) 128 cv] 119))))
          have Px := hid (And.intro (Px0.out.1.below (below_alloc wr (.cells #[.int .i64 (at' : Int), .slice (some ⟨bv, ofv, none⟩) 128 cv] 119))) Px0.out.2)
          have hw3 : w.heap.size ≤ (wr.alloc (.cells #[.int .i64 (at' : Int), .slice (some ⟨bv, ofv, none⟩) 128 cv] 119)).heap.size := C3.out.size
          obtain ⟨q, hq⟩ : ∃ q, wr.heap.size = q := ⟨_, rfl⟩
          rw [hq] at Bq ⊢
          generalize wr.alloc (.cells #[.int .i64 (at' : Int), .slice (some ⟨bv, ofv, none⟩) 128 cv] 119) = w3 at Bq S3 C3 Px hw3 ⊢
          clear q0 q1 hq Px0
          refine wp_region_chg 14 11 [] (fun idx v w' => match idx with
            | 0 | 1 | 2 => v = .pointer (some ⟨g, 0, none⟩)
            | 3 => v = .slice (some ⟨dn, 0, none⟩) s1.done.length dc
            | 4 => v = .pointer (some ⟨q, 0, none⟩)
            | 5 => v = .int .i64 (at' : Int)
            | 6 => ∃ b, v = .slice (some ⟨b, 0, none⟩) 0 0 ∧ Blk w' b [] 5 ∧ w3.heap.size ≤ b
            | 7 => v = .pointer (some ⟨q, 1, none⟩)
            | 8 => v = .slice (some ⟨bv, ofv, none⟩) 128 cv
            | 9 => OB w' w3.heap.size 5 v p
            | 10 => v = .pointer (some ⟨dn, at', none⟩)
            | _ => True) (by kernel_rfl) (by kernel_rfl) (by kernel_rfl) ?_ ?_ ?_ ?_
          · intro j v wx wy hR hb
            match j, hR with
            | 0, hR | 1, hR | 2, hR | 3, hR | 4, hR | 5, hR | 7, hR | 8, hR | 10, hR => exact hR
            | 6, hR => exact (by obtain ⟨b, e, h1, h2⟩ := hR; exact ⟨b, e, h1.below hb, h2⟩)
            | 9, hR => exact OB.below hR hb
            | _ + 11, _ => trivial
          · intro j v wx wy hne hR hb
            match j, hR with
            | 0, hR | 1, hR | 2, hR | 3, hR | 4, hR | 5, hR | 7, hR | 8, hR | 10, hR => exact hR
            | 6, hR => exact (by obtain ⟨b, e, h1, h2⟩ := hR; exact ⟨b, e, h1.below hb.below0, h2⟩)
            | 9, hR => exact OB.below hR hb.below0
            | _ + 11, _ => trivial
          · refine ⟨?_, ?_, ?_, ?_, ?_, ?_, ?_, ?_, ?_, ?_, ?_, trivial⟩
            all_goals intro ρ wx hE hc hg hf
            · intro h0; exact opOk_move _ rfl ⟨Below.refl _ _, h0⟩
            · intro (h0 : ρ (.tmp 25) = .pointer (some ⟨g, 0, none⟩))
              exact opOk_run (v := .pointer (some ⟨g, 0, none⟩)) (w' := wx) (by go_simp) ⟨Below.refl _ _, rfl⟩
            · intro (h0 : ρ (.tmp 26) = .pointer (some ⟨g, 0, none⟩))
              exact opOk_run (v := .pointer (some ⟨g, 0, none⟩)) (w' := wx) (by go_simp) ⟨Below.refl _ _, rfl⟩
            · intro (h0 : ρ (.tmp 27) = .pointer (some ⟨g, 0, none⟩))
              have c := ((S3.out.own.below (below_drew _)).keep (S := []) hE (by simp)).get 0 rfl
              dsimp only at c
              rw [dl] at c
              exact opOk_load _ _ rfl _ _ h0 (run_secl_at _ _ _ _ c) ⟨Below.refl _ _, rfl⟩
            · intro (h0 : ρ (.tmp 4) = .pointer (some ⟨q, 0, none⟩))
              exact opOk_run (v := .pointer (some ⟨q, 0, none⟩)) (w' := wx) (by go_simp) ⟨Below.refl _ _, rfl⟩
            · intro (h0 : ρ (.tmp 29) = .pointer (some ⟨q, 0, none⟩))
              have c := ((Bq.out.below (below_drew _)).keep (S := []) hE (by simp)).get 0 rfl
              exact opOk_load _ _ rfl _ _ h0 (run_int_at _ _ _ _ c) ⟨Below.refl _ _, rfl⟩
            · have hE : Chg [] w3.drew wx := hE
              exact opOk_lit0 _ 5 rfl under_bytes info_u8 fun h => ⟨below_alloc wx _, wx.heap.size, rfl, h, hE.size⟩
            · intro (h0 : ρ (.tmp 4) = .pointer (some ⟨q, 0, none⟩))
              exact opOk_run (v := .pointer (some ⟨q, 1, none⟩)) (w' := wx) (by go_simp) ⟨Below.refl _ _, rfl⟩
            · intro (h0 : ρ (.tmp 32) = .pointer (some ⟨q, 1, none⟩))
              have c := ((Bq.out.below (below_drew _)).keep (S := []) hE (by simp)).get 1 rfl
              exact opOk_load _ _ rfl _ _ h0 (run_bytes_at' _ _ _ _ c) ⟨Below.refl _ _, rfl⟩
            · intro ⟨b, h0, hB, hb⟩ (h1 : ρ (.tmp 33) = .slice (some ⟨bv, ofv, none⟩) 128 cv)
              have hE : Chg [] w3.drew wx := hE
              refine opOk_append_lit0 _ _ _ 5 rfl info_u8 under_bytes b h0 hB (a := some ⟨bv, ofv, none⟩) (c := cv) (l := p) ((Px.out.1.below (below_drew _)).below hE.below0) (by rw [h1, Px.out.2]) (by rw [Px.out.2]; omega) w3.heap.size hb fun v' w' h2 h3 => ⟨h3, h2⟩
            · intro (h0 : ρ (.tmp 28) = .slice (some ⟨dn, 0, none⟩) s1.done.length dc) (h1 : ρ (.tmp 30) = .int .i64 (at' : Int))
              exact opOk_run (v := .pointer (some ⟨dn, at', none⟩)) (w' := wx) (by go_simp) ⟨Below.refl _ _, rfl⟩
          · intro wz hE
            rintro _ rfl _ rfl _ rfl _ rfl _ rfl _ rfl _ _ _ rfl _ rfl v9 h9 _ rfl
            simp only [PutLast, Act.put, List.setIfInBounds_toArray, List.set_cons_succ, List.set_cons_zero]
            have hE3 : Below w3.heap.size w3 wz := (below_drew _).trans (hE.below0.mono (Nat.le_refl _))
            obtain ⟨a9, c9, e9, hbs9, hof9⟩ := OB.bs h9
            subst e9
            have hl9 := Px.out.2
            rw [hl9] at h9 ⊢
            have hput := rf_putsec (n0 := w.heap.size) S3.out hE3 at' (by dsimp only; rw [dl]; exact Hdl.out) p hl9 h9
            obtain ⟨_, q1, q2, _⟩ := dLD_get (S3.out.below hE3) at' (by dsimp only; rw [dl]; exact Hdl.out)
            refine opOk_store 33 (.tmp 35) (.tmp 34) rfl (.pointer (some ⟨dn, at', none⟩)) (.slice a9 128 c9) rfl rfl (run_sec_store wz dn at' _ a9 128 c9 q1 q2) ?_
            have S5 := hid hput
            have C5 := hid ((C3.out.trans (Chg.of_below _ hE3)).trans ((chg_setCell wz dn at' (.slice a9 128 c9)).mono (T := [g, dn]) (by simp)))
            clear hput q1 q2 hE hE3 hbs9 hof9 h9 hl9
            go_wp2_with fail
            have R : RflRel s1 w F B g dn dc wv (.int .i64 ((k : Int) + 1)) (wz.setCell ⟨dn, at', none⟩ (.slice a9 128 c9)) := ⟨k + 1, by go_num, by omega, by rw [Hfs.out]; exact S5.out, C5.out⟩
            refine ⟨?_, by simp [intOf]; omega⟩
            first | exact R | ((repeat apply Exists.intro); refine ⟨R, ?_⟩; and_intros <;> rfl)
        · obtain rfl : k = s1.way.length := by omega
          have hkn' : ¬ ((s1.way.length : Int) < (s1.way.length : Int)) := by omega
          have c1 := S.out.own.get 1 rfl
          have f1 := S.out.own.free 1
          have hch : Chg [g] wr (wr.setCell ⟨g, 1, none⟩ (.slice none 0 0)) := chg_setCell wr g 1 _
          have hB := S.out.own.set 1 (.slice none 0 0)
          simp only [List.set_cons_succ, List.set_cons_zero] at hB
          have hF9 := rf_clear S.out hch { s1 with done := flD s1 s1.way.length, way := [] } rfl rfl ⟨S.out.ok.sec, by simp, S.out.ok.small, by simp, S.out.ok.ssmall, S.out.ok.asmall⟩ hB
          have F9 := hid (hF9.wider (F' := Fnew F w.heap.size (wr.setCell ⟨g, 1, none⟩ (.slice none 0 0))) (fun q hq => hq.imp id fun h => ⟨h.1, by simp [World.setCell]; exact h.2⟩) (fun q hq => by
            rcases hq with hq | hq
            · have := S.out.lt q (.inl hq); simp [World.setCell]; omega
            · exact ⟨by omega, hq.2⟩))
          have C9 := hid (Cw.out.trans (hch.mono (T := [g, dn]) (by simp)))
          clear hch hB hF9
          go_wp2_with fail
          go_ret
          rw [e.out]
          exact ⟨_, rfl, F9.out, C9.out⟩
end Go.Proofs.YtoapibbbooongaaDoor

/- The document's slab: a crash. -/
namespace Go.Proofs.YtoapibbbooongaaDoor
open Go.RowKit Go.Quad _root_.Quad.Slab

theorem torn_get {f c : Nat} {old p : Bytes} (h1 : old.length = 128) (h2 : p.length = 128) (hc : c ≤ 128) (j : Nat) (_hj : j < 128) :
    (torn f c old p).getD j 0 = if f = 1 ∨ (f = 2 ∧ j < c) ∨ (f = 3 ∧ ¬ j < c) then p.getD j 0 else old.getD j 0 := by
  unfold torn
  simp only [List.getD_eq_getElem?_getD]
  have hl : (if f = 1 ∨ f = 2 then p.take c else old.take c).length = c := by split <;> simp [h1, h2] <;> omega
  by_cases hjc : j < c
  · rw [List.getElem?_append_left (by omega)]
    by_cases hf : f = 1 ∨ f = 2
    · rw [if_pos hf, if_pos (by omega), List.getElem?_take, if_pos hjc]
    · rw [if_neg hf, if_neg (by omega), List.getElem?_take, if_pos hjc]
  · rw [List.getElem?_append_right (by omega), hl]
    by_cases hf : f = 1 ∨ f = 3
    · rw [if_pos hf, if_pos (by omega), List.getElem?_drop, show c + (j - c) = j from by omega]
    · rw [if_neg hf, if_neg (by omega), List.getElem?_drop, show c + (j - c) = j from by omega]

/-- within a sector: so far the new one, then the old one -/
def RcIn (w3 : World) (pb pc : Nat) (T old : Bytes) (iv : Value) (wi : World) : Prop :=
  ∃ j : Nat, iv = .int .i64 (j : Int) ∧ j ≤ 128 ∧ OB wi w3.heap.size 5 (.slice (some ⟨pb, 0, none⟩) 128 pc) (T.take j ++ old.drop j) ∧ Below w3.heap.size w3 wi

theorem inner_facts {w3 wi : World} {pb pc : Nat} {f c : Nat} {old p : Bytes} {bv ofv cv j : Nat} (hO : OB wi w3.heap.size 5 (.slice (some ⟨pb, 0, none⟩) 128 pc) ((torn f c old p).take j ++ old.drop j)) (hB : Below w3.heap.size w3 wi)
    (h1 : old.length = 128) (h2 : p.length = 128) (hp : BS w3 (some ⟨bv, ofv, none⟩) cv p) (hc : c ≤ 128) (hj : j < 128) :
    (wi.cell? ⟨pb, j, none⟩ = some (.int .u8 ((old.getD j 0).toNat : Int)) ∧ wi.frozen? ⟨pb, j, none⟩ = false) ∧
    (∃ xb : Nat, (p.getD j 0).toNat = xb ∧ wi.cell? ⟨bv, ofv + j, none⟩ = some (.int .u8 (xb : Int)) ∧ (xb : Int) ≤ 255) ∧
    (f = 1 ∨ (f = 2 ∧ j < c) ∨ (f = 3 ∧ ¬ j < c) → ∀ xb : Nat, (p.getD j 0).toNat = xb → OB (wi.setCell ⟨pb, j, none⟩ (.int .u8 (xb : Int))) w3.heap.size 5 (.slice (some ⟨pb, 0, none⟩) 128 pc) ((torn f c old p).take (j + 1) ++ old.drop (j + 1))) ∧
    (¬ (f = 1 ∨ (f = 2 ∧ j < c) ∨ (f = 3 ∧ ¬ j < c)) → (torn f c old p).take (j + 1) ++ old.drop (j + 1) = (torn f c old p).take j ++ old.drop j) := by
  have hT := torn_length (fate := f) h1 h2 hc
  have hg := torn_get (f := f) h1 h2 hc j hj
  have hlen : ((torn f c old p).take j ++ old.drop j).length = 128 := by simp [hT, h1]; omega
  have hget : ((torn f c old p).take j ++ old.drop j)[j]? = some (old.getD j 0) := by
    rw [List.getElem?_append_right (by simp [hT]; omega), List.getElem?_drop, List.length_take, hT, show j + (j - min j 128) = j from by omega, List.getD_eq_getElem?_getD, List.getElem?_eq_getElem (by omega)]
    rfl
  have hsucc : ∀ x : UInt8, (torn f c old p).getD j 0 = x → (torn f c old p).take (j + 1) ++ old.drop (j + 1) = ((torn f c old p).take j ++ old.drop j).set j x := by
    intro x hx
    rw [List.set_append_right _ _ (by simp [hT]; omega), List.length_take, hT, show j - min j 128 = 0 from by omega, List.drop_eq_getElem_cons (show j < old.length by omega), List.set_cons_zero, List.take_succ_eq_append_getElem (by omega)]
    rw [List.getD_eq_getElem?_getD, List.getElem?_eq_getElem (by omega)] at hx
    simp only [Option.getD_some] at hx
    rw [hx]; simp
  unfold OB at hO
  rw [hlen] at hO
  obtain ⟨q1, q2⟩ := row_at hO j hj (u := u8v (old.getD j 0)) (by rw [List.getElem?_map, hget]; rfl)
  obtain ⟨b, off, e, hcell⟩ := BS.at (hp) (by omega)
  cases e
  have hpj := cell_later hB (hcell j (by omega))
  have hpg : p.getD j 0 = p[j]'(by omega) := by rw [List.getD_eq_getElem?_getD, List.getElem?_eq_getElem (by omega)]; rfl
  refine ⟨⟨q1, q2⟩, ⟨_, rfl, by rw [hpg]; exact hpj, by have := (p.getD j 0).toNat_lt; omega⟩, fun h xb hxb => ?_, fun h => ?_⟩
  · rw [if_pos h] at hg
    rw [hsucc _ hg]
    unfold OB
    rw [List.length_set, hlen, List.map_set]
    have := (row_store hO j (.int .u8 (xb : Int))).1
    rw [← hxb] at this ⊢
    exact this
  · rw [if_neg h] at hg
    rw [hsucc _ hg]
    exact List.ext_getElem? fun n => by
      by_cases hn : n = j
      · subst hn; rw [List.getElem?_set_self (by omega), hget]
      · rw [List.getElem?_set_ne (fun h => hn h.symm)]

def RcrRel (fates : Bytes) (c : Nat) (s : Sl) (w : World) (F : Nat → Prop) (B g dn dc : Nat) (wv iv : Value) (wr : World) : Prop :=
  ∃ k : Nat, iv = .int .i64 (k : Int) ∧ k ≤ s.way.length ∧ IsRf wr (Fnew F w.heap.size wr) B g dn dc wv { s with done := crD fates c s k } ∧ Chg [g, dn] w wr

end Go.Proofs.YtoapibbbooongaaDoor

/- The document's slab: a new one. -/
namespace Go.Proofs.YtoapibbbooongaaDoor
open Go.RowKit Go.Quad _root_.Quad.Slab

theorem run_secl_store (w : World) (g i : Nat) (old : Value) (a : Option Addr) (n c : Nat) (h : w.cell? ⟨g, i, none⟩ = some old) (hf : w.frozen? ⟨g, i, none⟩ = false) :
    (Instr.storeAt 34 (.pointer (some ⟨g, i, none⟩)) (.slice a n c)).run Tryd.prog w = .ok () (w.setCell ⟨g, i, none⟩ (.slice a n c)) := by go_simp

def p128 : List UInt8 := List.replicate 128 0
theorem ok_make128 (w : World) (o : Oper) (ρ : Operand → Value) (K : Value → World → Prop) (hc : ∀ c, ρ (.const c) = c) (ho : o.op = .makeSlice 33 (.const (.int .i64 128)) (.const (.int .i64 128)))
    (hk : ∀ w', OB w' w.heap.size 5 (.slice (some ⟨w.heap.size, 0, none⟩) 128 128) p128 → Below w.heap.size w w' → K (.slice (some ⟨w.heap.size, 0, none⟩) 128 128) w') : OpOk Tryd.prog o ρ w K := by
  obtain ⟨i, hi, hz0, hz1, hz2⟩ := info_parts info_u8
  obtain ⟨w', hrun, r1, r2⟩ := run_make_full (P := Tryd.prog) w w.heap.size 33 5 i _ 1 under_bytes hi hz0 hz1 .i64 .i64 128 (by rw [hz2]; decide) (by decide) (Nat.le_refl _)
  refine opOk_run (v := .slice (some ⟨w.heap.size, 0, none⟩) 128 128) (w' := w') ?_ (hk w' ?_ (grownBy_below r2 (Nat.le_refl _) (by simp)))
  · simp only [execOp, ho, hc, Sem.run_bind]
    have : ((128 : Nat) : Int) = 128 := rfl
    rw [this] at hrun
    rw [hrun]
    rfl
  · have h := row_made w' rfl r1
    unfold OB
    rw [show p128.map u8v = List.replicate 128 (.int .u8 0) from by unfold p128; rw [List.map_replicate]; rfl, show p128.length = 128 from by simp [p128]]
    exact h

def RnRel (w : World) (g n : Nat) (iv : Value) (wr : World) : Prop :=
  ∃ (k : Nat) (dv : Value) (LD : List (Value × List UInt8)), iv = .int .i64 (k : Int) ∧ k ≤ n ∧ Blk wr g [dv, .slice none 0 0, .bool false, .int .i64 0, .int .i64 0] 111 ∧
    wr.ownsRow w.heap.size 33 1 dv k (LD.flatMap dD) ∧ LD.map (·.2) = List.replicate k p128 ∧
    (∀ x ∈ LD, ∃ b off c, x.1 = .slice (some ⟨b, off, none⟩) 128 c ∧ BS wr (some ⟨b, off, none⟩) c x.2 ∧ x.2.length = 128 ∧ w.heap.size ≤ b ∧ b < wr.heap.size ∧ b ≠ g ∧ dv.ownBlock ≠ some b) ∧ dv.ownBlock ≠ some g ∧ Below w.heap.size w wr

theorem rnewno_calls (w : World) (n : Int) (h : n < 1 ∨ 4096 < n) : Calls Tryd.prog 16 #[.int .i64 n] w fun e w' => e = .returned (.tuple #[.pointer none, .int .i64 1]) ∧ w = w' := by
  by_cases h1 : n < 1
  · go_enter Tryd.func16, Tryd.ntmps16
    go_wp2_with fail
    go_ret2
    exact ⟨rfl, rfl⟩
  · have h1' : decide (n < 1) = false := by simpa using h1
    have h2 : 4096 < n := by omega
    go_enter Tryd.func16, Tryd.ntmps16
    go_wp2_with fail
    go_ret2
    exact ⟨rfl, rfl⟩

def RnTo (w : World) (n : Nat) (e : Ending) (w' : World) : Prop :=
  ∃ g dn dc, e = .returned (.tuple #[.pointer (some ⟨g, 0, none⟩), .int .i64 0]) ∧ IsRf w' (fun k => w.heap.size ≤ k ∧ k < w'.heap.size) w.heap.size g dn dc (.slice none 0 0) (newL n) ∧ Below w.heap.size w w'

set_option maxRecDepth 20000 in
set_option maxHeartbeats 1000000 in
theorem rnew_calls (w : World) (n : Nat) (h : 1 ≤ n ∧ n ≤ 4096) : Calls Tryd.prog 16 #[.int .i64 (n : Int)] w (RnTo w n) := by
  have h1 : ¬ ((n : Int) < 1) := by omega
  have h2 : ¬ (4096 < (n : Int)) := by omega
  go_enter Tryd.func16, Tryd.ntmps16
  go_wp2_with fail
  have G0 := hid (blk_alloc w [.slice none 0 0, .slice none 0 0, .bool false, .int .i64 0, .int .i64 0] 111)
  have B0 := hid (below_alloc w (.cells #[.slice none 0 0, .slice none 0 0, .bool false, .int .i64 0, .int .i64 0] 111))
  obtain ⟨g, hg⟩ : ∃ g, w.heap.size = g := ⟨_, rfl⟩
  rw [hg] at G0 ⊢
  have Hg := hid (show w.heap.size = g from hg)
  clear hg
  go_loopw [14] (fun iv wr => RnRel w g n iv wr) (fun iv _ => n - (intOf iv).toNat)
  case atStart => exact ⟨0, _, [], rfl, Nat.zero_le _, G0.out, World.ownsRow_nil _ _ _ _, rfl, by simp, by simp [Value.ownBlock], B0.out⟩
  case round =>
    obtain ⟨k, dv, LD, rfl, hk, hG, hR, hm, hsec, hdg, hB⟩ := hrel
    obtain ⟨B, hBe⟩ : ∃ B, B = w.heap.size := ⟨_, rfl⟩
    have HB := hid hBe
    have hgB := hid (show B ≤ g from by rw [hBe, Hg.out]; exact Nat.le_refl _)
    have Gx := hid hG
    have Rx := hid (show wr.ownsRow B 33 1 dv k (LD.flatMap dD) from by rw [hBe]; exact hR)
    have Hm := hid hm
    have Hsec := hid hsec
    have Bx := hid hB
    have hBw : B ≤ wr.heap.size := by rw [hBe]; exact hB.size
    have Hdg := hid hdg
    have Hdv := hid (show ∀ b, dv.ownBlock = some b → b < wr.heap.size from fun b hb => (World.ownsRow.lt hR b hb).2)
    clear hG hR hm hsec hdg hB hBe
    by_cases hkn : k < n
    · have hkn' : (k : Int) < (n : Int) := by omega
      go_upto_region 6 with fail
      refine wp_region_chg 14 7 dv.ownBlock.toList (fun idx v w' => match idx with
        | 0 | 1 | 2 => v = .pointer (some ⟨g, 0, none⟩)
        | 3 => v = .pointer (some ⟨g, 0, none⟩)
        | 4 => v = dv
        | 5 => ∃ b, v = .slice (some ⟨b, 0, none⟩) 128 128 ∧ OB w' wr.heap.size 5 (.slice (some ⟨b, 0, none⟩) 128 128) p128 ∧ wr.heap.size ≤ b
        | 6 => ∃ b5 b6, v = .slice (some ⟨b6, 0, none⟩) 1 1 ∧ Blk w' b6 [.slice (some ⟨b5, 0, none⟩) 128 128] 33 ∧ OB w' wr.heap.size 5 (.slice (some ⟨b5, 0, none⟩) 128 128) p128 ∧ wr.heap.size ≤ b5 ∧ wr.heap.size ≤ b6
        | 7 => (∃ a c, v = .slice a (k + 1) c) ∧ ∃ b5, w'.ownsRow B 33 1 v (k + 1) (LD.flatMap dD ++ [.slice (some ⟨b5, 0, none⟩) 128 128]) ∧ OB w' wr.heap.size 5 (.slice (some ⟨b5, 0, none⟩) 128 128) p128 ∧ wr.heap.size ≤ b5 ∧ (v.ownBlock = dv.ownBlock ∨ ∃ b, v.ownBlock = some b ∧ b5 < b)
        | 8 | 9 => v = .pointer (some ⟨g, 0, none⟩)
        | _ => True) (by kernel_rfl) (by kernel_rfl) (by kernel_rfl) ?_ ?_ ?_ ?_
      · intro j v wx wy hR hb
        match j, hR with
        | 0, hR | 1, hR | 2, hR | 3, hR | 4, hR | 8, hR | 9, hR => exact hR
        | 5, hR => exact (by obtain ⟨b, e, h1, h2⟩ := hR; exact ⟨b, e, h1.below hb, h2⟩)
        | 6, hR => exact (by obtain ⟨b5, b6, e, h1, h2, h3, h4⟩ := hR; exact ⟨b5, b6, e, h1.below hb, h2.below hb, h3, h4⟩)
        | 7, hR => exact (by obtain ⟨h0, b5, h1, h2, h3, h4⟩ := hR; exact ⟨h0, b5, ownsRow_chg h1 (Chg.of_below [] hb) (by simp), h2.below hb, h3, h4⟩)
        | _ + 10, _ => trivial
      · intro j v wx wy hne hR hb
        match j, hR with
        | 0, hR | 1, hR | 2, hR | 3, hR | 4, hR | 8, hR | 9, hR => exact hR
        | 5, hR => exact (by obtain ⟨b, e, h1, h2⟩ := hR; exact ⟨b, e, OB.chg h1 hb (fun q hq hm => by simp [Value.ownBlock] at hq; subst hq; have := Hdv.out b (by simpa using hm); omega), h2⟩)
        | 6, hR => exact (by obtain ⟨b5, b6, e, h1, h2, h3, h4⟩ := hR; exact ⟨b5, b6, e, h1.keep hb (fun hm => by have := Hdv.out b6 (by simpa using hm); omega), OB.chg h2 hb (fun q hq hm => by simp [Value.ownBlock] at hq; subst hq; have := Hdv.out b5 (by simpa using hm); omega), h3, h4⟩)
        | 7, _ => exact (hne rfl).elim
        | _ + 10, _ => trivial
      · refine ⟨?_, ?_, ?_, ?_, ?_, ?_, ?_, ?_, ?_, ?_, trivial⟩
        all_goals intro ρ wx hE hc hg hf
        · intro h0; exact opOk_move _ rfl ⟨Below.refl _ _, h0⟩
        · intro h0; exact opOk_move _ rfl ⟨Below.refl _ _, h0⟩
        · intro (h0 : ρ (.tmp 17) = .pointer (some ⟨g, 0, none⟩))
          exact opOk_run (v := .pointer (some ⟨g, 0, none⟩)) (w' := wx) (by go_simp) ⟨Below.refl _ _, rfl⟩
        · intro (h0 : ρ (.tmp 18) = .pointer (some ⟨g, 0, none⟩))
          exact opOk_run (v := .pointer (some ⟨g, 0, none⟩)) (w' := wx) (by go_simp) ⟨Below.refl _ _, rfl⟩
        · intro (h0 : ρ (.tmp 19) = .pointer (some ⟨g, 0, none⟩))
          have hE : Chg dv.ownBlock.toList wr.drew wx := hE
          have c := ((Gx.out.below (below_drew _)).keep hE (fun hm => Hdg.out (by simpa using hm))).get 0 rfl
          exact opOk_load _ _ rfl _ _ h0 (run_secl_at _ _ _ _ c) ⟨Below.refl _ _, rfl⟩
        · have hE : Chg dv.ownBlock.toList wr.drew wx := hE
          exact ok_make128 wx _ ρ _ hc rfl fun w' h1 h2 => ⟨h2, wx.heap.size, rfl, h1.base hE.size, hE.size⟩
        · intro ⟨b, h0, hB, hb⟩
          have hE : Chg dv.ownBlock.toList wr.drew wx := hE
          refine opOk_run (v := .slice (some ⟨wx.heap.size, 0, none⟩) 1 1) (w' := wx.alloc (.cells #[.slice (some ⟨b, 0, none⟩) 128 128] 33)) (by go_simp) ⟨below_alloc wx _, b, wx.heap.size, rfl, blk_alloc wx [.slice (some ⟨b, 0, none⟩) 128 128] _, hB.below (below_alloc wx _), hb, hE.size⟩
        · intro h0 ⟨b5, b6, h1, hB6, hB5, hb5, hb6⟩
          have hE : Below wr.drew.heap.size wr.drew wx := hE
          have hown : wx.ownsRow B 33 1 dv k (LD.flatMap dD) := ownsRow_chg (ownsRow_chg Rx.out (Chg.of_below [] (below_drew _)) (by simp)) (Chg.of_below [] hE) (by simp)
          refine opOk_append _ _ _ rfl B 33 (.slice none 0 0) 1 24 info_sec rfl (by decide) under_secs dv _ _ h0 hown ⟨b6, 0, none⟩ 1 1 [.slice (some ⟨b5, 0, none⟩) 128 128] h1 rfl
            (fun j u hu => by rw [Addr.add_mid, Nat.zero_add, hB6.cell]; exact hu) (by simp [Value.oneCell']) (by unfold maxLen; omega) (by omega) (by have := hE.size; have h2 : wr.drew.heap.size = wr.heap.size := rfl; omega) ?_
          intro v' w3 h2 h3 h4
          refine ⟨chg_grownBy h3, (by obtain ⟨a, c, e, _⟩ := ownsRow_cs h2; exact ⟨a, c, e⟩), b5, h2, OB.chg hB5 (chg_grownBy h3) (fun q hq hm => by simp [Value.ownBlock] at hq; subst hq; have := Hdv.out b5 (by simpa using hm); omega), hb5, h4.imp id fun h => ⟨_, h, (World.ownsRow.lt hB5 b5 rfl).2⟩⟩
        · intro (h0 : ρ (.tmp 16) = .pointer (some ⟨g, 0, none⟩))
          exact opOk_run (v := .pointer (some ⟨g, 0, none⟩)) (w' := wx) (by go_simp) ⟨Below.refl _ _, rfl⟩
        · intro (h0 : ρ (.tmp 24) = .pointer (some ⟨g, 0, none⟩))
          exact opOk_run (v := .pointer (some ⟨g, 0, none⟩)) (w' := wx) (by go_simp) ⟨Below.refl _ _, rfl⟩
      · intro wz hE
        rintro _ rfl _ rfl _ rfl _ rfl dv rfl _ _ _ _ _ ⟨⟨a7, c7, rfl⟩, b5, h7, hB5, hb5, hv7⟩ _ rfl _ rfl
        simp only [PutLast, Act.put, List.setIfInBounds_toArray, List.set_cons_succ, List.set_cons_zero]
        have hG := (Gx.out.below (below_drew _)).keep hE (fun hm => Hdg.out (by simpa using hm))
        refine opOk_store 34 (.tmp 25) (.tmp 23) rfl (.pointer (some ⟨g, 0, none⟩)) (.slice a7 (k + 1) c7) rfl rfl (run_secl_store wz g 0 _ a7 (k + 1) c7 (hG.get 0 rfl) (hG.free 0)) ?_
        have hG2 := hG.set 0 (.slice a7 (k + 1) c7)
        simp only [List.set_cons_zero] at hG2
        have hch : Chg [g] wz (wz.setCell ⟨g, 0, none⟩ (.slice a7 (k + 1) c7)) := chg_setCell wz g 0 _
        have hne7 : (Value.slice a7 (k + 1) c7).ownBlock ≠ some g := by
          rcases hv7 with h | ⟨b, h, hl⟩
          · rw [h]; exact Hdg.out
          · rw [h]; intro e; cases e; have := Gx.out.lt; omega
        have hR : RnRel w g n (.int .i64 ((k : Int) + 1)) (wz.setCell ⟨g, 0, none⟩ (.slice a7 (k + 1) c7)) := by
          refine ⟨k + 1, _, LD ++ [(.slice (some ⟨b5, 0, none⟩) 128 128, p128)], by go_num, by omega, hG2, ?_, by rw [List.map_append, Hm.out]; simp [List.replicate_succ'], ?_, hne7, ?_⟩
          · rw [List.flatMap_append, List.flatMap_singleton]
            rw [← HB.out]
            exact ownsRow_chg h7 hch (fun q hq hm => by simp at hm; subst hm; exact hne7 hq)
          · have hw1 : Chg (g :: dv.ownBlock.toList) wr (wz.setCell ⟨g, 0, none⟩ (.slice a7 (k + 1) c7)) := ((Chg.of_below _ (below_drew wr)).trans (hE.mono (by intro q hq; exact .inl (List.mem_cons_of_mem _ hq)))).trans (hch.mono (by simp))
            intro x hx
            rcases List.mem_append.1 hx with hx | hx
            · obtain ⟨b, off, c, e, hbs, hl, hbB, hbl, hbg, hbd⟩ := Hsec.out x hx
              refine ⟨b, off, c, e, cs_chg hbs hw1 ?_, hl, hbB, Nat.lt_of_lt_of_le hbl hw1.size, hbg, ?_⟩
              · rintro y ⟨⟩ hm
                simp only [List.mem_cons, Option.mem_toList] at hm
                rcases hm with hm | hm
                · exact hbg hm
                · exact hbd hm
              · rcases hv7 with h | ⟨b', h, hl'⟩
                · rw [h]; exact hbd
                · rw [h]; intro e'; cases e'; omega
            · rw [List.mem_singleton] at hx
              subst hx
              have hgl := Gx.out.lt
              have hlt5 := (World.ownsRow.lt hB5 b5 rfl).2
              refine ⟨b5, 0, 128, rfl, ?_, by simp [p128], by have := HB.out; omega, by have := hch.size; omega, by omega, ?_⟩
              · obtain ⟨a', c', e', hbs, _⟩ := (OB.chg hB5 hch (by intro q hq hm; simp [Value.ownBlock] at hq; subst hq; simp at hm; omega)).bs
                simp only [Value.slice.injEq] at e'
                obtain ⟨rfl, _, rfl⟩ := e'
                exact hbs
              · rcases hv7 with h | ⟨b', h, hl'⟩
                · rw [h]; intro e'; have := Hdv.out b5 e'; omega
                · rw [h]; intro e'; cases e'; omega
          · refine Bx.out.trans ((((Chg.of_below _ (below_drew wr)).trans hE).below (B := w.heap.size) Bx.out.size ?_).trans (hch.below (B := w.heap.size) (by have := Bx.out.size; have := hE.size; have h2 : wr.drew.heap.size = wr.heap.size := rfl; omega) (by simp; rw [Hg.out]; exact Nat.le_refl _)))
            intro q hq
            rw [← HB.out]
            exact (World.ownsRow.lt Rx.out q (by simpa using hq)).1
        have R9 := hid hR
        clear hR hG hG2 hch hne7 hv7 h7 hB5 hE
        go_wp2_with fail
        refine ⟨?_, by simp [intOf]; omega⟩
        first | exact R9.out | ((repeat apply Exists.intro); refine ⟨R9.out, ?_⟩; and_intros <;> rfl)
    · obtain rfl : k = n := by omega
      have hkn' : ¬ ((k : Int) < (k : Int)) := by omega
      go_wp2_with fail
      go_ret2
      have hn0 : LD ≠ [] := by intro e; rw [e] at Hm; have := Hm.out; simp at this; omega
      have hLl : LD.length = k := by have := congrArg List.length Hm.out; simpa using this
      have hgl := Gx.out.lt
      have hR := Rx.out
      rcases hR.2 with ⟨_, hx⟩ | ⟨dn, dc, cur, hv, hb, hg', hnc, _⟩
      · omega
      · subst hv
        have hdn : dn ≠ g := fun e => Hdg.out (by rw [e]; rfl)
        have hdl : dn < wr.heap.size := (Array.getElem?_eq_some_iff.1 hg').1
        have hBB := HB.out
        refine ⟨g, dn, dc, rfl, ⟨?_, ⟨LD, ?_, by rw [Hm.out]; rfl, ?_⟩, ⟨none, 0, [], rfl, ⟨by simp, by simp [maxLen], fun _ => rfl, .inl rfl⟩, Nat.le_refl _, rfl, by simp, .inl rfl⟩, ok_new k h.2, ⟨⟨by have := hgB.out; omega, hgl⟩, ⟨by omega, hdl⟩, fun e => hdn e.symm⟩, fun q hq => hq⟩, Bx.out⟩
        · have := Gx.out
          simp only [newL, List.length_replicate]
          exact this
        · rw [show (newL k).done.length = k from by simp [newL], ← hBB]; exact hR
        · intro x hx
          obtain ⟨b, off, c, e, hbs, hl, hbB, hbl, hbg, hbd⟩ := Hsec.out x hx
          rw [e]
          exact ⟨b, off, c, rfl, hbs, hl, ⟨hbB, hbl⟩, hbg, fun e' => hbd (by rw [e']; rfl)⟩
end Go.Proofs.YtoapibbbooongaaDoor

/- A slab and the document's, side by side. -/
namespace Go.Proofs.YtoapibbbooongaaDoor
open Go.RowKit Go.Quad _root_.Quad.Slab

/-- both slabs, and blocks that neither has -/
structure Pl (wn : World) (B2 g d g2 dn dc : Nat) (X : List Nat) (s1 s2 : Sl) (w : World) : Prop where
  ex : ∃ wv F wv2, IsSlab w wn.heap.size g d wv s1 ∧ IsRf w F B2 g2 dn dc wv2 s2 ∧ (∀ k ∈ slS g d wv, ¬ F k) ∧ (∀ x ∈ X, x < w.heap.size ∧ x ∉ slS g d wv ∧ ¬ F x)
  bel : Below wn.heap.size wn w
  b2 : wn.heap.size ≤ B2

def XKeep (X : List Nat) (w w' : World) : Prop := ∀ x ∈ X, w'.heap[x]? = w.heap[x]?

theorem XKeep.of_chg {X S : List Nat} {w w' : World} (hc : Chg S w w') (h : ∀ x ∈ X, x < w.heap.size ∧ x ∉ S) : XKeep X w w' := fun x hx => hc.block x (h x hx).1 (h x hx).2
theorem XKeep.trans {X : List Nat} {a b c : World} (h : XKeep X a b) (k : XKeep X b c) : XKeep X a c := fun x hx => (k x hx).trans (h x hx)

theorem Pl.below {wn : World} {B2 g d g2 dn dc : Nat} {X : List Nat} {s1 s2 : Sl} {w w' : World} (h : Pl wn B2 g d g2 dn dc X s1 s2 w) (hb : Below w.heap.size w w') : Pl wn B2 g d g2 dn dc X s1 s2 w' := by
  obtain ⟨wv, F, wv2, h1, h2, h3, h4⟩ := h.ex
  exact ⟨⟨wv, F, wv2, h1.below hb, h2.below hb, h3, fun x hx => ⟨Nat.lt_of_lt_of_le (h4 x hx).1 hb.size, (h4 x hx).2⟩⟩, h.bel.trans (hb.mono h.bel.size), h.b2⟩
theorem Pl.keepX {wn : World} {B2 g d g2 dn dc : Nat} {X : List Nat} {s1 s2 : Sl} {w w' : World} (h : Pl wn B2 g d g2 dn dc X s1 s2 w) (hb : Below w.heap.size w w') : XKeep X w w' := by
  obtain ⟨wv, F, wv2, h1, h2, h3, h4⟩ := h.ex
  exact fun x hx => hb.block x (h4 x hx).1

/-- a block just made is neither's -/
theorem Pl.more {wn : World} {B2 g d g2 dn dc : Nat} {X : List Nat} {s1 s2 : Sl} {w w' : World} (h : Pl wn B2 g d g2 dn dc X s1 s2 w) (hb : Below w.heap.size w w') (x : Nat) (hx : w.heap.size ≤ x) (hx' : x < w'.heap.size) : Pl wn B2 g d g2 dn dc (x :: X) s1 s2 w' := by
  obtain ⟨wv, F, wv2, h1, h2, h3, h4⟩ := h.ex
  refine ⟨⟨wv, F, wv2, h1.below hb, h2.below hb, h3, fun y hy => ?_⟩, h.bel.trans (hb.mono h.bel.size), h.b2⟩
  rcases List.mem_cons.1 hy with rfl | hy
  · exact ⟨hx', fun hm => by have := (h1.in_ge _ hm).2; omega, fun hf => by have := (h2.lt _ hf).2; omega⟩
  · exact ⟨Nat.lt_of_lt_of_le (h4 y hy).1 hb.size, (h4 y hy).2⟩
theorem Pl.less {wn : World} {B2 g d g2 dn dc : Nat} {X Y : List Nat} {s1 s2 : Sl} {w : World} (h : Pl wn B2 g d g2 dn dc X s1 s2 w) (hY : ∀ y ∈ Y, y ∈ X) : Pl wn B2 g d g2 dn dc Y s1 s2 w := by
  obtain ⟨wv, F, wv2, h1, h2, h3, h4⟩ := h.ex
  exact ⟨⟨wv, F, wv2, h1, h2, h3, fun y hy => h4 y (hY y hy)⟩, h.bel, h.b2⟩
/-- what is changed in blocks that are kept changes neither -/
theorem Pl.other {wn : World} {B2 g d g2 dn dc : Nat} {X S : List Nat} {s1 s2 : Sl} {w w' : World} (h : Pl wn B2 g d g2 dn dc X s1 s2 w) (hc : Chg S w w') (hS : ∀ k ∈ S, k ∈ X) (hge : ∀ k ∈ S, wn.heap.size ≤ k) : Pl wn B2 g d g2 dn dc X s1 s2 w' := by
  obtain ⟨wv, F, wv2, h1, h2, h3, h4⟩ := h.ex
  exact ⟨⟨wv, F, wv2, h1.chg hc (fun k hk => (h4 k (hS k hk)).2.1), h2.keep hc (fun k hk => (h4 k (hS k hk)).2.2), h3, fun x hx => ⟨Nat.lt_of_lt_of_le (h4 x hx).1 hc.size, (h4 x hx).2⟩⟩, h.bel.trans (hc.below h.bel.size hge), h.b2⟩

theorem Pl.of_slab {wn w w' : World} {B2 g d g2 dn dc r : Nat} {X : List Nat} {s1 s1' s2 : Sl} {e : Ending} {wv : Value} {F : Nat → Prop} {wv2 : Value} (h1 : IsSlab w wn.heap.size g d wv s1) (h2 : IsRf w F B2 g2 dn dc wv2 s2) (h3 : ∀ k ∈ slS g d wv, ¬ F k)
    (h4 : ∀ x ∈ X, x < w.heap.size ∧ x ∉ slS g d wv ∧ ¬ F x) (hb : Below wn.heap.size wn w) (hb2 : wn.heap.size ≤ B2) (ht : SlabTo w wn.heap.size g d wv s1' r e w') :
    e = .returned (.int .i64 (r : Int)) ∧ Pl wn B2 g d g2 dn dc X s1' s2 w' ∧ XKeep X w w' := by
  obtain ⟨wv', rfl, q1, q2, q3⟩ := ht
  have hnew : ∀ k ∈ slS g d wv', k ∈ slS g d wv ∨ w.heap.size ≤ k := by
    intro k hk
    simp only [slS, List.mem_cons] at hk
    rcases hk with rfl | rfl | hk
    · exact .inl (by simp [slS])
    · exact .inl (by simp [slS])
    · exact q3 k (by simpa using hk)
  refine ⟨rfl, ⟨⟨wv', F, wv2, q1, h2.keep q2 (fun k hk => h3 k hk), fun k hk hf => ?_, fun x hx => ⟨Nat.lt_of_lt_of_le (h4 x hx).1 q2.size, fun hm => ?_, (h4 x hx).2.2⟩⟩, hb.trans (q2.below hb.size fun k hk => (h1.in_ge k hk).1), hb2⟩, XKeep.of_chg q2 fun x hx => ⟨(h4 x hx).1, (h4 x hx).2.1⟩⟩
  · rcases hnew k hk with h | h
    · exact h3 k h hf
    · have := (h2.lt k hf).2; omega
  · rcases hnew x hm with h | h
    · exact (h4 x hx).2.1 h
    · have := (h4 x hx).1; omega

theorem Pl.of_rf {wn w w' : World} {B2 g d g2 dn dc r : Nat} {X : List Nat} {s1 s2 s2' : Sl} {e : Ending} {wv : Value} {F : Nat → Prop} {wv2 : Value} (h1 : IsSlab w wn.heap.size g d wv s1) (h2 : IsRf w F B2 g2 dn dc wv2 s2) (h3 : ∀ k ∈ slS g d wv, ¬ F k)
    (h4 : ∀ x ∈ X, x < w.heap.size ∧ x ∉ slS g d wv ∧ ¬ F x) (hb : Below wn.heap.size wn w) (hb2 : wn.heap.size ≤ B2) (ht : RfTo w F B2 g2 dn dc s2' r e w') :
    e = .returned (.int .i64 (r : Int)) ∧ Pl wn B2 g d g2 dn dc X s1 s2' w' ∧ XKeep X w w' := by
  obtain ⟨wv', rfl, q1, q2⟩ := ht
  have hF : ∀ k ∈ [g2, dn], F k := by
    intro k hk
    simp only [List.mem_cons, List.not_mem_nil, or_false] at hk
    rcases hk with rfl | rfl
    · exact h2.inF.1
    · exact h2.inF.2.1
  refine ⟨rfl, ⟨⟨wv, _, wv', h1.chg q2 (fun k hk hm => h3 k hm (hF k hk)), q1, fun k hk hf => ?_, fun x hx => ⟨Nat.lt_of_lt_of_le (h4 x hx).1 q2.size, (h4 x hx).2.1, fun hf => ?_⟩⟩, hb.trans (q2.below hb.size fun k hk => by have := (h2.lt k (hF k hk)).1; omega), hb2⟩, XKeep.of_chg q2 fun x hx => ⟨(h4 x hx).1, fun hm => (h4 x hx).2.2 (hF x hm)⟩⟩
  · rcases hf with h | h
    · exact h3 k hk h
    · have := (h1.in_ge k hk).2; omega
  · rcases hf with h | h
    · exact (h4 x hx).2.2 h
    · have := (h4 x hx).1; omega

/-- bytes that neither changes -/
def OffX (wn : World) (X : List Nat) (a : Option Addr) (t : List UInt8) : Prop := t = [] ∨ ∀ x, a = some x → x.block < wn.heap.size ∨ x.block ∈ X

theorem pl_write {wn w : World} {B2 g d g2 dn dc : Nat} {X : List Nat} {s1 s2 : Sl} (h : Pl wn B2 g d g2 dn dc X s1 s2 w) (i : Int) (a : Option Addr) (cap n : Nat) (t : List UInt8) (hi : -9223372036854775808 ≤ i ∧ i ≤ 9223372036854775807) (ht : BS w a cap t) (hn : t.length = n) (hs : s1.steps < 1000000) (hw : s1.way.length < 1000000) (ho : OffX wn X a t) :
    Calls Tryd.prog 17 #[.pointer (some ⟨g, 0, none⟩), .int .i64 i, .slice a n cap] w fun e w' => e = .returned (.int .i64 ((writeL s1 i t).2 : Int)) ∧ Pl wn B2 g d g2 dn dc X (writeL s1 i t).1 s2 w' ∧ XKeep X w w' := by
  subst hn
  obtain ⟨wv, F, wv2, h1, h2, h3, h4⟩ := h.ex
  refine (write_any w _ g d wv s1 i a cap t h1 hi ht hs hw (ho.imp id fun ho x hx hm => ?_)).mono fun e w' ht => Pl.of_slab h1 h2 h3 h4 h.bel h.b2 ht
  rcases ho x hx with hh | hh
  · have := (h1.in_ge _ hm).1; omega
  · exact (h4 _ hh).2.1 hm

theorem pl_put {wn w : World} {B2 g d g2 dn dc : Nat} {X : List Nat} {s1 s2 : Sl} (h : Pl wn B2 g d g2 dn dc X s1 s2 w) (i : Int) (a : Option Addr) (cap n : Nat) (t : List UInt8) (hi : -9223372036854775808 ≤ i ∧ i ≤ 9223372036854775807) (ht : BS w a cap t) (hn : t.length = n) (hs : s2.steps < 1000000) (hw : s2.way.length < 1000000) (ho : OffX wn X a t) :
    Calls Tryd.prog 18 #[.pointer (some ⟨g2, 0, none⟩), .int .i64 i, .slice a n cap] w fun e w' => e = .returned (.int .i64 ((writeL s2 i t).2 : Int)) ∧ Pl wn B2 g d g2 dn dc X s1 (writeL s2 i t).1 w' ∧ XKeep X w w' := by
  subst hn
  obtain ⟨wv, F, wv2, h1, h2, h3, h4⟩ := h.ex
  refine (rput_any w F B2 g2 dn dc wv2 s2 i a cap t h2 hi ht hs hw (ho.imp id fun ho x hx hm => ?_)).mono fun e w' ht => Pl.of_rf h1 h2 h3 h4 h.bel h.b2 ht
  have hg := (h2.lt _ h2.inF.1).1
  have hb2 := h.b2
  rcases ho x hx with hh | hh
  · omega
  · exact (h4 _ hh).2.2 (by rw [hm]; exact h2.inF.1)

theorem pl_flush {wn w : World} {B2 g d g2 dn dc : Nat} {X : List Nat} {s1 s2 : Sl} (h : Pl wn B2 g d g2 dn dc X s1 s2 w) (hs : s1.steps < 1000000) :
    Calls Tryd.prog 65 #[.pointer (some ⟨g, 0, none⟩)] w fun e w' => e = .returned (.int .i64 ((flushL s1).2 : Int)) ∧ Pl wn B2 g d g2 dn dc X (flushL s1).1 s2 w' ∧ XKeep X w w' := by
  obtain ⟨wv, F, wv2, h1, h2, h3, h4⟩ := h.ex
  exact (flush_calls w _ g d wv s1 h1 hs).mono fun e w' ht => Pl.of_slab h1 h2 h3 h4 h.bel h.b2 ht
theorem pl_rflush {wn w : World} {B2 g d g2 dn dc : Nat} {X : List Nat} {s1 s2 : Sl} (h : Pl wn B2 g d g2 dn dc X s1 s2 w) (hs : s2.steps < 1000000) :
    Calls Tryd.prog 100 #[.pointer (some ⟨g2, 0, none⟩)] w fun e w' => e = .returned (.int .i64 ((flushL s2).2 : Int)) ∧ Pl wn B2 g d g2 dn dc X s1 (flushL s2).1 w' ∧ XKeep X w w' := by
  obtain ⟨wv, F, wv2, h1, h2, h3, h4⟩ := h.ex
  exact (rflush_calls w F B2 g2 dn dc wv2 s2 h2 hs).mono fun e w' ht => Pl.of_rf h1 h2 h3 h4 h.bel h.b2 ht

theorem pl_crash {wn w : World} {B2 g d g2 dn dc : Nat} {X : List Nat} {s1 s2 : Sl} (h : Pl wn B2 g d g2 dn dc X s1 s2 w) (a : Option Addr) (cap n : Nat) (t : List UInt8) (cut : Int) (hcut : -9223372036854775808 ≤ cut ∧ cut ≤ 9223372036854775807) (ht : BS w a cap t) (hn : t.length = n) (ho : OffX wn X a t) :
    Calls Tryd.prog 43 #[.pointer (some ⟨g, 0, none⟩), .slice a n cap, .int .i64 cut] w fun e w' => e = .returned (.int .i64 0) ∧ Pl wn B2 g d g2 dn dc X (crashL s1 t cut) s2 w' ∧ XKeep X w w' := by
  subst hn
  obtain ⟨wv, F, wv2, h1, h2, h3, h4⟩ := h.ex
  refine (crash_calls w _ g d wv s1 a cap t cut h1 ht (ho.imp id fun ho x hx hm => ?_) hcut).mono fun e w' ht => Pl.of_slab h1 h2 h3 h4 h.bel h.b2 ht
  rcases ho x hx with hh | hh
  · have := (h1.in_ge _ hm).1; omega
  · exact (h4 _ hh).2.1 hm
theorem pl_read {wn w : World} {B2 g d g2 dn dc : Nat} {X : List Nat} {s1 s2 : Sl} (h : Pl wn B2 g d g2 dn dc X s1 s2 w) (i : Int) (hi : -9223372036854775808 ≤ i ∧ i ≤ 9223372036854775807) :
    Calls Tryd.prog 82 #[.pointer (some ⟨g, 0, none⟩), .int .i64 i] w (ReadAny w (readL s1 i).1 (readL s1 i).2) := by
  obtain ⟨wv, F, wv2, h1, h2, h3, h4⟩ := h.ex
  exact read_any w _ g d wv s1 i h1 hi
theorem pl_get {wn w : World} {B2 g d g2 dn dc : Nat} {X : List Nat} {s1 s2 : Sl} (h : Pl wn B2 g d g2 dn dc X s1 s2 w) (i : Int) (hi : -9223372036854775808 ≤ i ∧ i ≤ 9223372036854775807) :
    Calls Tryd.prog 97 #[.pointer (some ⟨g2, 0, none⟩), .int .i64 i] w (ReadAny w (readL s2 i).1 (readL s2 i).2) := by
  obtain ⟨wv, F, wv2, h1, h2, h3, h4⟩ := h.ex
  exact rget_any w F B2 g2 dn dc wv2 s2 i h2 hi

/-- so many steps and writes at most -/
def Few (n : Nat) (s : Sl) : Prop := s.steps ≤ n ∧ s.way.length ≤ n ∧ s.done.length ≤ 20
theorem Few.more {n : Nat} {s : Sl} (h : Few n s) : Few (n + 1) s := ⟨Nat.le_succ_of_le h.1, Nat.le_succ_of_le h.2.1, h.2.2⟩
theorem Few.write {n : Nat} {s : Sl} (h : Few n s) (i : Int) (t : Bytes) : Few (n + 1) (writeL s i t).1 := by
  unfold writeL
  split
  · exact h.more
  · exact ⟨by show s.steps + 1 ≤ _; have := h.1; omega, by show (s.way ++ _).length ≤ _; have := h.2.1; simp; omega, h.2.2⟩
theorem Few.flush {n : Nat} {s : Sl} (h : Few n s) : Few (n + 1) (flushL s).1 := by
  unfold flushL
  split
  · exact h.more
  · split
    · exact ⟨by show s.steps + 1 ≤ _; have := h.1; omega, Nat.le_succ_of_le h.2.1, h.2.2⟩
    · exact ⟨by show s.steps + 1 ≤ _; have := h.1; omega, by simp, by show (s.way.foldl (fun d w => d.set w.1 w.2) s.done).length ≤ _; rw [(foldl_set_keep' s.way s.done)]; exact h.2.2⟩
where
  foldl_set_keep' : ∀ (l : List (Nat × Bytes)) (D : List Bytes), (l.foldl (fun d w => d.set w.1 w.2) D).length = D.length
  | [], D => rfl
  | x :: l, D => by rw [List.foldl_cons, foldl_set_keep' l]; simp
theorem Few.arm {n : Nat} {s : Sl} (h : Few n s) (i : Int) : Few (n + 1) (armL s i).1 := by
  unfold armL
  split
  · exact h.more
  · exact ⟨Nat.le_succ_of_le h.1, Nat.le_succ_of_le h.2.1, h.2.2⟩
theorem Few.crash {n : Nat} {s : Sl} (h : Few n s) (t : Bytes) (c : Int) : Few (n + 1) (crashL s t c) :=
  ⟨Nat.le_succ_of_le h.1, by simp [crashL], by show (crashD _ _ _ _ _).length ≤ _; rw [crashD_length]; exact h.2.2⟩

theorem ownsRow_x {w w' : World} {base : Nat} {e : TypeId} {size : Nat} {v : Value} {n : Nat} {xs : List Value} (h : w.ownsRow base e size v n xs) (hk : ∀ k, v.ownBlock = some k → w'.heap[k]? = w.heap[k]?) : w'.ownsRow base e size v n xs := by
  refine ⟨h.1, ?_⟩
  rcases h.2 with h0 | ⟨g, cap, cur, rfl, hb, hg, h1⟩
  · exact .inl h0
  · exact .inr ⟨g, cap, cur, rfl, hb, by rw [hk g rfl]; exact hg, h1⟩
theorem OB.x {X : List Nat} {w w' : World} {base : Nat} {e : TypeId} {v : Value} {l : List UInt8} (h : OB w base e v l) (hX : XKeep X w w') (hv : ∀ k, v.ownBlock = some k → k ∈ X) : OB w' base e v l := ownsRow_x h fun k hk => hX k (hv k hk)
theorem Blk.x {X : List Nat} {w w' : World} {g : Nat} {cs : List Value} {t : TypeId} (h : Blk w g cs t) (hX : XKeep X w w') (hg : g ∈ X) : Blk w' g cs t := by
  unfold Blk at *; rw [hX g hg]; exact h

theorem Pl.moreL {wn : World} {B2 g d g2 dn dc : Nat} {X L : List Nat} {s1 s2 : Sl} {w w' : World} (h : Pl wn B2 g d g2 dn dc X s1 s2 w) (hb : Below w.heap.size w w') (hL : ∀ x ∈ L, w.heap.size ≤ x ∧ x < w'.heap.size) : Pl wn B2 g d g2 dn dc (X ++ L) s1 s2 w' := by
  obtain ⟨wv, F, wv2, h1, h2, h3, h4⟩ := h.ex
  refine ⟨⟨wv, F, wv2, h1.below hb, h2.below hb, h3, fun y hy => ?_⟩, h.bel.trans (hb.mono h.bel.size), h.b2⟩
  rcases List.mem_append.1 hy with hy | hy
  · exact ⟨Nat.lt_of_lt_of_le (h4 y hy).1 hb.size, (h4 y hy).2⟩
  · exact ⟨(hL y hy).2, fun hm => by have := (h1.in_ge _ hm).2; have := (hL y hy).1; omega, fun hf => by have := (h2.lt _ hf).2; have := (hL y hy).1; omega⟩

theorem offX_old {wn W : World} {X : List Nat} {a : Option Addr} {cap : Nat} {t : List UInt8} (h : BS W a cap t) (hs : W.heap.size ≤ wn.heap.size) : OffX wn X a t := by
  by_cases ht : t = []
  · exact .inl ht
  · obtain ⟨b, off, rfl, hc⟩ := CS.at h (by simpa using List.length_pos_iff.2 ht)
    have hlt := World.block_lt_of_cell? W ⟨b, off + 0, none⟩ (hc 0 _ (List.getElem?_eq_getElem (by simpa using List.length_pos_iff.2 ht)))
    refine .inr fun x hx => .inl ?_
    cases hx
    have : b < W.heap.size := hlt
    show b < _
    omega
/-- bytes of the call's own, as an argument -/
theorem ob_arg {wn w : World} {X : List Nat} {base n : Nat} {a : Option Addr} {c : Nat} {l : List UInt8} (h : OB w base 5 (.slice a n c) l) (hX : ∀ k, (Value.slice a n c).ownBlock = some k → k ∈ X) : BS w a c l ∧ l.length = n ∧ OffX wn X a l := by
  obtain ⟨a', c', e, hbs, hof⟩ := h.bs
  simp only [Value.slice.injEq] at e
  obtain ⟨rfl, hn, rfl⟩ := e
  refine ⟨hbs, hn.symm, .inr fun x hx => .inr (hX _ ?_)⟩
  obtain ⟨h0, h1, _⟩ := hof x hx
  rw [hx]
  obtain ⟨b, off, spot⟩ := x
  dsimp only at h0 h1
  subst h0 h1
  rfl

/-- bytes turned one by one: those from the j-th on stand still -/
def XorRel (P : World → Prop) (base : Nat) (v : Value) (l : List UInt8) (iv : Value) (wr : World) : Prop :=
  ∃ (j : Nat) (xs : List Value), iv = .int .i64 (j : Int) ∧ j ≤ l.length ∧ wr.ownsRow base 5 1 v l.length xs ∧ xs.drop j = (l.drop j).map u8v ∧ P wr

theorem xor_start {P : World → Prop} {base : Nat} {v : Value} {l : List UInt8} {w : World} (h : OB w base 5 v l) (hP : P w) : XorRel P base v l (.int .i64 0) w := ⟨0, l.map u8v, rfl, Nat.zero_le _, h, by simp, hP⟩

theorem xor_at {P : World → Prop} {base : Nat} {v : Value} {l : List UInt8} {j : Nat} {xs : List Value} {wr : World} (hj : j < l.length) (hR : wr.ownsRow base 5 1 v l.length xs) (hx : xs.drop j = (l.drop j).map u8v) :
    ∃ (b c x : Nat), v = .slice (some ⟨b, 0, none⟩) l.length c ∧ wr.cell? ⟨b, j, none⟩ = some (.int .u8 (x : Int)) ∧ wr.frozen? ⟨b, j, none⟩ = false ∧ ((x : Nat) : Int) ≤ 255 ∧ base ≤ b ∧
      (∀ u, P (wr.setCell ⟨b, j, none⟩ u) → XorRel P base v l (.int .i64 ((j : Int) + 1)) (wr.setCell ⟨b, j, none⟩ u)) := by
  rcases hR.2 with ⟨rfl, h0⟩ | ⟨b, c, cur, rfl, hb, _⟩
  · omega
  · have hxl : xs.length = l.length := by have := hR.1; simpa using this
    have hget : xs[j]? = some (u8v l[j]) := by
      have h1 : (xs.drop j)[0]? = ((l.drop j).map u8v)[0]? := by rw [hx]
      rw [List.getElem?_drop, Nat.add_zero] at h1
      rw [h1]
      simp [List.getElem?_eq_getElem hj]
    obtain ⟨q1, q2⟩ := row_at hR j hj hget
    refine ⟨b, c, l[j].toNat, rfl, q1, q2, by have := l[j].toNat_lt; omega, hb, fun u hP => ⟨j + 1, xs.set j u, by go_num, by omega, (row_store hR j u).1, ?_, hP⟩⟩
    rw [List.drop_set_of_lt (by omega)]
    have : xs.drop (j + 1) = (xs.drop j).drop 1 := by rw [List.drop_drop]
    rw [this, hx, ← List.map_drop, List.drop_drop]

/-- a byte changed in a block that is kept -/
theorem Pl.setX {wn w : World} {B2 g d g2 dn dc : Nat} {X : List Nat} {s1 s2 : Sl} (h : Pl wn B2 g d g2 dn dc X s1 s2 w) (b i : Nat) (u : Value) (hb : b ∈ X) (hge : wn.heap.size ≤ b) : Pl wn B2 g d g2 dn dc X s1 s2 (w.setCell ⟨b, i, none⟩ u) :=
  h.other (chg_setCell w b i u) (by simpa using hb) (by simpa using hge)

def DnRel (n : Nat) (w0 : World) (iv : Value) (w : World) : Prop := ∃ i : Nat, iv = .int .i64 (i : Int) ∧ i ≤ n ∧ Below w0.heap.size w0 w

theorem qwrite (w : World) (i : Int) (a : Option Addr) (n cap : Nat) : Calls Tryd.prog 17 #[.pointer none, .int .i64 i, .slice a n cap] w fun e w' => e = .returned (.int .i64 6) ∧ w' = w := (nilwrite_calls w i a n cap).mono fun _ _ ⟨h1, h2⟩ => ⟨h1, h2.symm⟩
theorem qput (w : World) (i : Int) (a : Option Addr) (n cap : Nat) : Calls Tryd.prog 18 #[.pointer none, .int .i64 i, .slice a n cap] w fun e w' => e = .returned (.int .i64 6) ∧ w' = w := (nilrput_calls w i a n cap).mono fun _ _ ⟨h1, h2⟩ => ⟨h1, h2.symm⟩
theorem qcrash (w : World) (v : Value) (i : Int) : Calls Tryd.prog 43 #[.pointer none, v, .int .i64 i] w fun e w' => e = .returned (.int .i64 6) ∧ w' = w := (nilcrash_calls w v i).mono fun _ _ ⟨h1, h2⟩ => ⟨h1, h2.symm⟩
def BadRel (w : World) (n : Nat) (iv : Value) (wr : World) : Prop := ∃ k : Nat, iv = .int .i64 (k : Int) ∧ k ≤ n ∧ k ≤ 60 ∧ Below w.heap.size w wr
def MidBad (w0 : World) (b : Value) (w : World) : Prop := b = .bool true ∧ Below w0.heap.size w0 w
end Go.Proofs.YtoapibbbooongaaDoor
