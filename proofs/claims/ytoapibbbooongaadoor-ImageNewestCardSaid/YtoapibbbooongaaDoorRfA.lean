/- The document's slab in memory: what it is, a step, the power told, a write. -/
import Derived.Test.YtoapibbbooongaaDoorSlabOps
import Derived.Test.YtoapibbbooongaaDoorZeros
namespace Go.Proofs.YtoapibbbooongaaDoor
open Go.RowKit Go.Quad _root_.Quad.Slab

theorem under_secs : Tryd.prog.underlying 34 = some (.slice 33) := by kernel_rfl
theorem under_rways : Tryd.prog.underlying 109 = some (.slice 119) := by kernel_rfl
theorem info_sec : (Tryd.prog.info? 33).map (fun i => (i.zero, i.size, i.bytes)) = some (some (.slice none 0 0), 1, 24) := by kernel_rfl
theorem info_rway : (Tryd.prog.info? 119).map (fun i => (i.zero, i.size, i.bytes)) = some (some (.agg #[.int .i64 0, .slice none 0 0]), 2, 32) := by kernel_rfl

def dD (x : Value × List UInt8) : List Value := [x.1]
def dW (x : Nat × Value × List UInt8) : List Value := [.int .i64 (x.1 : Int), x.2.1]
theorem dD_length (x : Value × List UInt8) : (dD x).length = 1 := rfl
theorem dW_length (x : Nat × Value × List UInt8) : (dW x).length = 2 := rfl

/-- a sector's bytes, apart from what is written -/
def SecAt (w : World) (F : Nat → Prop) (g dn : Nat) (v : Value) (p : List UInt8) : Prop :=
  ∃ b off c, v = .slice (some ⟨b, off, none⟩) 128 c ∧ BS w (some ⟨b, off, none⟩) c p ∧ p.length = 128 ∧ F b ∧ b ≠ g ∧ b ≠ dn

theorem SecAt.keep {S : List Nat} {w w' : World} {F F' : Nat → Prop} {g dn : Nat} {v : Value} {p : List UInt8} (h : SecAt w F g dn v p) (hc : Chg S w w') (hS : ∀ k ∈ S, ¬ F k ∨ k = g ∨ k = dn) (hF : ∀ k, F k → F' k) : SecAt w' F' g dn v p := by
  obtain ⟨b, off, c, e, hb, hl, hf, h1, h2⟩ := h
  refine ⟨b, off, c, e, cs_chg hb hc ?_, hl, hF b hf, h1, h2⟩
  rintro x hx hm
  cases hx
  rcases hS _ hm with h | h | h
  · exact h hf
  · exact h1 h
  · exact h2 h

structure IsRf (w : World) (F : Nat → Prop) (B g dn dc : Nat) (wv : Value) (s : Sl) : Prop where
  own : Blk w g [.slice (some ⟨dn, 0, none⟩) s.done.length dc, wv, .bool s.off, .int .i64 (s.armed : Int), .int .i64 (s.steps : Int)] 111
  don : ∃ LD : List (Value × List UInt8), w.ownsRow B 33 1 (.slice (some ⟨dn, 0, none⟩) s.done.length dc) s.done.length (LD.flatMap dD) ∧ LD.map (·.2) = s.done ∧ ∀ x ∈ LD, SecAt w F g dn x.1 x.2
  way : ∃ (a : Option Addr) (c : Nat) (LW : List (Nat × Value × List UInt8)), wv = .slice a LW.length c ∧ CS w a c 2 (LW.flatMap dW) ∧ LW.length ≤ c ∧ LW.map (fun x => (x.1, x.2.2)) = s.way ∧ (∀ x ∈ LW, SecAt w F g dn x.2.1 x.2.2) ∧ (LW = [] ∨ ∃ b off, a = some ⟨b, off, none⟩ ∧ F b ∧ b ≠ g ∧ b ≠ dn)
  ok : Ok s
  inF : F g ∧ F dn ∧ g ≠ dn
  lt : ∀ k, F k → B ≤ k ∧ k < w.heap.size

theorem cs_chgS {S : List Nat} {w w' : World} {a : Option Addr} {cap sz : Nat} {xs : List Value} (h : CS w a cap sz xs) (hc : Chg S w w') (hs : xs = [] ∨ ∀ x, a = some x → x.block ∉ S) : CS w' a cap sz xs := by
  refine ⟨h.fit, h.max, h.none, ?_⟩
  rcases hs with rfl | hs
  · exact .inl rfl
  · refine h.at'.imp id fun ⟨b, off, e, hh⟩ => ⟨b, off, e, fun i v hv => ?_⟩
    have hv' := hh i v hv
    have hlt := World.block_lt_of_cell? w ⟨b, off + i, none⟩ hv'
    rw [← hv']
    exact World.cell?_of_block (w := w) (hc.block b hlt (hs _ e))

/-- what came since -/
def Fnew (F : Nat → Prop) (n : Nat) (w : World) : Nat → Prop := fun k => F k ∨ (n ≤ k ∧ k < w.heap.size)

/-- nothing of it has changed -/
theorem IsRf.keep {S : List Nat} {w w' : World} {F : Nat → Prop} {B g dn dc : Nat} {wv : Value} {s : Sl} (h : IsRf w F B g dn dc wv s) (hc : Chg S w w') (hS : ∀ k ∈ S, ¬ F k) : IsRf w' F B g dn dc wv s := by
  obtain ⟨LD, h1, h2, h3⟩ := h.don
  obtain ⟨a, c, LW, e1, e2, e3, e4, e5, e6⟩ := h.way
  refine ⟨h.own.keep hc (fun hm => hS _ hm h.inF.1), ⟨LD, ownsRow_chg h1 hc (fun k hk hm => ?_), h2, fun x hx => (h3 x hx).keep hc (fun k hk => .inl (hS k hk)) (fun _ h => h)⟩,
    ⟨a, c, LW, e1, cs_chgS e2 hc ?_, e3, e4, fun x hx => (e5 x hx).keep hc (fun k hk => .inl (hS k hk)) (fun _ h => h), e6⟩, h.ok, h.inF, fun k hk => ⟨(h.lt k hk).1, Nat.lt_of_lt_of_le (h.lt k hk).2 hc.size⟩⟩
  · simp [Value.ownBlock] at hk
    subst hk
    exact hS _ hm h.inF.2.1
  · rcases e6 with rfl | ⟨b, off, rfl, hb, _⟩
    · exact .inl rfl
    · refine .inr ?_
      rintro x ⟨⟩ hm
      exact hS _ hm hb
theorem IsRf.below {w w' : World} {F : Nat → Prop} {B g dn dc : Nat} {wv : Value} {s : Sl} (h : IsRf w F B g dn dc wv s) (hb : Below w.heap.size w w') : IsRf w' F B g dn dc wv s := h.keep (Chg.of_below [] hb) (by simp)

theorem IsRf.wider {w : World} {F F' : Nat → Prop} {B g dn dc : Nat} {wv : Value} {s : Sl} (h : IsRf w F B g dn dc wv s) (hF : ∀ k, F k → F' k) (hl : ∀ k, F' k → B ≤ k ∧ k < w.heap.size) : IsRf w F' B g dn dc wv s := by
  obtain ⟨LD, h1, h2, h3⟩ := h.don
  obtain ⟨a, c, LW, e1, e2, e3, e4, e5, e6⟩ := h.way
  refine ⟨h.own, ⟨LD, h1, h2, fun x hx => (h3 x hx).keep (Chg.refl [] w) (by simp) hF⟩, ⟨a, c, LW, e1, e2, e3, e4, fun x hx => (e5 x hx).keep (Chg.refl [] w) (by simp) hF, e6.imp id fun ⟨b, off, e, hb, h⟩ => ⟨b, off, e, hF b hb, h⟩⟩, h.ok, ⟨hF _ h.inF.1, hF _ h.inF.2.1, h.inF.2.2⟩, hl⟩
theorem IsRf.new {w' : World} {F : Nat → Prop} {B g dn dc : Nat} {wv : Value} {s : Sl} (h : IsRf w' F B g dn dc wv s) (n : Nat) (hn : B ≤ n) : IsRf w' (Fnew F n w') B g dn dc wv s :=
  h.wider (fun k hk => .inl hk) (fun k hk => by rcases hk with hk | hk; exact h.lt k hk; exact ⟨by omega, hk.2⟩)

/-- its fields are stored, done and way stay -/
theorem IsRf.put {w w' : World} {F : Nat → Prop} {B g dn dc : Nat} {wv : Value} {s s' : Sl} (h : IsRf w F B g dn dc wv s) (hc : Chg [g] w w')
    (hB : Blk w' g [.slice (some ⟨dn, 0, none⟩) s.done.length dc, wv, .bool s'.off, .int .i64 (s'.armed : Int), .int .i64 (s'.steps : Int)] 111)
    (hd : s'.done = s.done) (hw : s'.way = s.way) (hok : Ok s') : IsRf w' F B g dn dc wv s' := by
  obtain ⟨LD, h1, h2, h3⟩ := h.don
  obtain ⟨a, c, LW, e1, e2, e3, e4, e5, e6⟩ := h.way
  have hS : ∀ k ∈ [g], ¬ F k ∨ k = g ∨ k = dn := by simp
  have h1' : w'.ownsRow B 33 1 (.slice (some ⟨dn, 0, none⟩) s'.done.length dc) s'.done.length (LD.flatMap dD) := by
    rw [hd]
    refine ownsRow_chg h1 hc (fun k hk hm => ?_)
    simp [Value.ownBlock] at hk
    subst hk
    simp at hm
    exact h.inF.2.2 hm.symm
  refine ⟨by rw [hd]; exact hB, ⟨LD, h1', by rw [hd]; exact h2, fun x hx => (h3 x hx).keep hc hS (fun _ h => h)⟩,
    ⟨a, c, LW, e1, cs_chgS e2 hc ?_, e3, by rw [hw]; exact e4, fun x hx => (e5 x hx).keep hc hS (fun _ h => h), e6⟩, hok, h.inF, fun k hk => ⟨(h.lt k hk).1, Nat.lt_of_lt_of_le (h.lt k hk).2 hc.size⟩⟩
  rcases e6 with rfl | ⟨b, off, rfl, hb, h1, h2⟩
  · exact .inl rfl
  · refine .inr ?_
    rintro x ⟨⟩ hm
    simp at hm
    exact h1 hm

set_option maxHeartbeats 1000000 in
theorem rstep_calls (w : World) (F : Nat → Prop) (B g dn dc : Nat) (wv : Value) (s : Sl) (h : IsRf w F B g dn dc wv s) (hs : s.steps < 1000000) (ho : s.off = false) :
    Calls Tryd.prog 58 #[.pointer (some ⟨g, 0, none⟩)] w fun e w' => e = .returned (.bool (!(stepL s).off)) ∧ IsRf w' F B g dn dc wv (stepL s) ∧ Chg [g] w w' := by
  have c2 := h.own.get 2 rfl
  have c3 := h.own.get 3 rfl
  have c4 := h.own.get 4 rfl
  have f2 := h.own.free 2
  have f3 := h.own.free 3
  have f4 := h.own.free 4
  rw [ho] at c2
  have hss : (s.steps : Int) ≤ 1000000 := by omega
  have has' : (s.armed : Int) ≤ 9223372036854775807 := by have := h.ok.asmall; omega
  have H := hid h
  have Hs := hid hs
  have Ho := hid ho
  clear h hs ho
  have hB0 := (H.out.own.set 4 (.int .i64 ((s.steps : Int) + 1)))
  by_cases h0 : s.armed = 0
  · have e : stepL s = { s with steps := s.steps + 1 } := by unfold stepL; rw [if_neg (by omega), h0]
    have hof : (stepL s).off = false := by rw [e]; exact Ho.out
    rw [hof]
    have h0' : ¬ (0 < (s.armed : Int)) := by omega
    have h1' : ((s.armed : Int) == 1) = false := by rw [beq_eq_false_iff_ne]; omega
    have hput := hid (H.out.put (s' := stepL s) (chg_setCell w g 4 (.int .i64 ((s.steps : Int) + 1))) (by rw [e]; simpa using hB0) (by rw [e]) (by rw [e]) (ok_step H.out.ok Hs.out))
    clear e hof hB0 h0
    go_enter Tryd.func58, Tryd.ntmps58
    go_wp2_with fail
    go_ret
    exact ⟨rfl, hput.out, chg_setCell w g 4 _⟩
  · by_cases h1 : s.armed = 1
    · have e : stepL s = { s with steps := s.steps + 1, armed := 0, off := true } := by unfold stepL; rw [if_pos (by omega), h1]; rfl
      have hof : (stepL s).off = true := by rw [e]
      rw [hof]
      have hB := (hB0.set 2 (.bool true)).set 3 (.int .i64 0)
      have hc : Chg [g] w (((w.setCell ⟨g, 4, none⟩ (.int .i64 ((s.steps : Int) + 1))).setCell ⟨g, 2, none⟩ (.bool true)).setCell ⟨g, 3, none⟩ (.int .i64 0)) :=
        ((chg_setCell w g 4 _).trans (chg_setCell _ g 2 _)).trans (chg_setCell _ g 3 _)
      have hput := hid (H.out.put (s' := stepL s) hc (by rw [e]; simpa using hB) (by rw [e]) (by rw [e]) (ok_step H.out.ok Hs.out))
      have Hc := hid hc
      rw [h1] at c3
      clear e hof hB0 hB h0 hc h1 has'
      go_enter Tryd.func58, Tryd.ntmps58
      go_wp2_with fail
      go_ret
      exact ⟨rfl, hput.out, Hc.out⟩
    · have e : stepL s = { s with steps := s.steps + 1, armed := s.armed - 1, off := false } := by unfold stepL; rw [if_pos (by omega), decide_eq_false h1]
      have hof : (stepL s).off = false := by rw [e]
      rw [hof]
      have h0' : 0 < (s.armed : Int) := by omega
      have h1' : ((s.armed : Int) == 1) = false := by rw [beq_eq_false_iff_ne]; omega
      have hB := hB0.set 3 (.int .i64 ((s.armed : Int) - 1))
      have hc : Chg [g] w ((w.setCell ⟨g, 4, none⟩ (.int .i64 ((s.steps : Int) + 1))).setCell ⟨g, 3, none⟩ (.int .i64 ((s.armed : Int) - 1))) :=
        (chg_setCell w g 4 _).trans (chg_setCell _ g 3 _)
      have hput := hid (H.out.put (s' := stepL s) hc (by rw [e]; simp only [List.set_cons_succ, List.set_cons_zero] at hB; rw [show ((s.armed - 1 : Nat) : Int) = (s.armed : Int) - 1 from by omega]; rw [Ho.out] at hB; simpa using hB) (by rw [e]) (by rw [e]) (ok_step H.out.ok Hs.out))
      have Hc := hid hc
      clear e hof hB0 hB h0 hc h1
      go_enter Tryd.func58, Tryd.ntmps58
      go_wp2_with fail
      go_ret
      exact ⟨rfl, hput.out, Hc.out⟩

end Go.Proofs.YtoapibbbooongaaDoor
