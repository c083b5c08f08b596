/- The walks of layer 1: a pen in whatever state. -/
import Derived.Test.YtmmcmldcbdaooaaDoorInkC
import Derived.Test.YtmmcmldcbdaooaaDoorReads
namespace Go.Proofs.YtmmcmldcbdaooaaDoor
open Go.RowKit Go.Quad _root_.Quad.Ink

/-- what a call of a pen's leaves -/
def PenTo (w : World) (B g : Nat) (s : Value) (l' : List UInt8) (bad' : Bool) (e : Ending) (w' : World) : Prop :=
  e = .returned (.tuple #[]) ∧ ∃ s', IsPen w' B g s' l' bad' ∧ Chg (penS g s) w w' ∧ (∀ k, s'.ownBlock = some k → s.ownBlock = some k ∨ w.heap.size ≤ k)

/-- bytes more, unless the pen is bad -/
def addN (bad : Bool) (l x : List UInt8) : List UInt8 := if bad then l else l ++ x
def intN (n : Int) (bad : Bool) (l : List UInt8) : List UInt8 := if n < 0 then l else addN bad l (numL n.toNat)

theorem pnum_any (n : Nat) (hn : n < 18446744073709551616) (w : World) (B g : Nat) (s : Value) (l : List UInt8) (bad : Bool) (h : IsPen w B g s l bad) (hl : l.length ≤ 1000000) :
    Calls Tryd.prog 37 #[.pointer (some ⟨g, 0, none⟩), .int .u64 (n : Int)] w (PenTo w B g s (addN bad l (numL n)) bad) := by
  cases bad
  · exact pennum_calls n hn w B g s l h hl
  · have c1 : w.cell? ⟨g, 1, none⟩ = some (.bool true) := by rw [h.own.cell]; rfl
    have H := hid h
    clear h hl hn
    go_enter Tryd.func37, Tryd.ntmps37
    go_wp2_with fail
    (try simp only [Exit.inBlock, Exit.then])
    refine bodyPost_ret (results_none rfl _ _ _) rfl ?_
    exact ⟨rfl, s, H.out, Chg.refl _ _, fun k hk => .inl hk⟩

theorem IsPen.setBad {w : World} {B g : Nat} {s : Value} {l : List UInt8} {bad : Bool} (h : IsPen w B g s l bad) : IsPen (w.setCell ⟨g, 1, none⟩ (.bool true)) B g s l true := by
  refine ⟨?_, h.row.chg (chg_setCell w g 1 _) (fun k hk hm => ?_), h.ge, h.ne⟩
  · have := h.own.set 1 (.bool true)
    simpa using this
  · simp at hm
    subst hm
    exact h.ne hk

theorem pint_any (n : Int) (hn : -9223372036854775808 ≤ n ∧ n ≤ 9223372036854775807) (w : World) (B g : Nat) (s : Value) (l : List UInt8) (bad : Bool) (h : IsPen w B g s l bad) (hl : l.length ≤ 1000000) :
    Calls Tryd.prog 36 #[.pointer (some ⟨g, 0, none⟩), .int .i64 n] w (PenTo w B g s (intN n bad l) (bad || decide (n < 0))) := by
  by_cases h0 : n < 0
  · rw [show intN n bad l = l from if_pos h0, show decide (n < 0) = true from by simpa using h0, Bool.or_true]
    have h0' : ¬ (0 ≤ n) := by omega
    have f1 := h.own.free 1
    have c1 : w.cell? ⟨g, 1, none⟩ = some (.bool bad) := by rw [h.own.cell]; rfl
    have H := hid h
    clear h hl hn
    go_enter Tryd.func36, Tryd.ntmps36
    go_wp2_with fail
    go_end0
    exact ⟨rfl, s, H.out.setBad, (chg_setCell w g 1 _).mono (by intro k hk; simp at hk; simp [hk, penS]), fun k hk => .inl hk⟩
  · rw [show intN n bad l = addN bad l (numL n.toNat) from if_neg h0, show decide (n < 0) = false from by simpa using h0, Bool.or_false]
    obtain ⟨k, rfl⟩ : ∃ k : Nat, n = k := ⟨n.toNat, by omega⟩
    rw [Int.toNat_natCast]
    have hk : (k : Int) ≤ 9223372036854775807 := by omega
    have C := hid (pnum_any k (by omega) w B g s l bad h hl)
    clear h hl hn h0
    go_enter Tryd.func36, Tryd.ntmps36
    go_wp2_with fail
    refine C.out.mono ?_
    rintro e w1 ⟨rfl, hP⟩
    go_wp2_with fail
    go_end0
    exact ⟨rfl, hP⟩

theorem pbool_any (b : Bool) (w : World) (B g : Nat) (s : Value) (l : List UInt8) (bad : Bool) (h : IsPen w B g s l bad) (hl : l.length ≤ 1000000) :
    Calls Tryd.prog 41 #[.pointer (some ⟨g, 0, none⟩), .bool b] w (PenTo w B g s (addN bad l (numL (if b then 1 else 0))) bad) := by
  have C := hid (pnum_any (if b then 1 else 0) (by cases b <;> simp) w B g s l bad h hl)
  clear h hl
  cases b
  all_goals
    go_enter Tryd.func41, Tryd.ntmps41
    go_wp2_with fail
    refine C.out.mono ?_
    rintro e w1 ⟨rfl, hP⟩
    go_wp2_with fail
    go_end0
    exact ⟨rfl, hP⟩

theorem ptext_any (w : World) (B g : Nat) (s : Value) (l : List UInt8) (bad : Bool) (a : Option Addr) (cap : Nat) (t : List UInt8) (h : IsPen w B g s l bad) (hl : l.length ≤ 900000) (ht : BS w a cap t) (hn : t.length ≤ 50000) (ho : OffPen g s a t) :
    Calls Tryd.prog 38 #[.pointer (some ⟨g, 0, none⟩), .slice a t.length cap] w (PenTo w B g s (addN bad l (numL t.length ++ t)) bad) := by
  cases bad
  · exact pentext_calls w B g s l a cap t h hl ht hn ho
  · have C := hid (pnum_any t.length (by omega) w B g s l true h (by omega))
    have hn' : (t.length : Int) ≤ 50000 := by omega
    clear h hl ht ho
    go_enter Tryd.func38, Tryd.ntmps38
    go_wp2_with fail
    refine C.out.mono ?_
    rintro e w1 ⟨rfl, s1, h1, hc1, hw1⟩
    have c1 : w1.cell? ⟨g, 1, none⟩ = some (.bool true) := by rw [h1.own.cell]; rfl
    have H1 := hid h1
    have C1 := hid hc1
    have W1 := hid hw1
    clear h1 hc1 hw1
    go_wp2_with fail
    go_end0
    exact ⟨rfl, s1, H1.out, C1.out, W1.out⟩

def want1 (bad : Bool) (d : List UInt8) : List UInt8 := if bad then [] else d

theorem bytes_any (w : World) (B g : Nat) (s : Value) (l : List UInt8) (bad : Bool) (h : IsPen w B g s l bad) (hl : l.length ≤ 1000000) :
    Calls Tryd.prog 71 #[.pointer (some ⟨g, 0, none⟩)] w (RetB w.heap.size w (want1 bad l)) := by
  cases bad
  · exact bytes_calls w B g s l h hl
  · have c1 : w.cell? ⟨g, 1, none⟩ = some (.bool true) := by rw [h.own.cell]; rfl
    clear h hl
    go_enter Tryd.func71, Tryd.ntmps71
    go_wp2_with fail
    go_ret
    exact ⟨_, rfl, World.ownsRow_nil w _ _ _, Below.refl _ _⟩

/-- the document's bytes of a text -/
theorem reftext_calls (w : World) (a : Option Addr) (cap : Nat) (t : List UInt8) (ht : BS w a cap t) (hn : t.length ≤ 50000) :
    Calls Tryd.prog 44 #[.slice a t.length cap] w (RetB w.heap.size w (numL t.length ++ t)) := by
  have hn' : (t.length : Int) ≤ 50000 := by omega
  have hlen := numL_len10 (n := t.length) (by omega)
  have Hl := hid hlen
  have T := hid ht
  clear ht hlen
  go_enter Tryd.func44, Tryd.ntmps44
  go_wp2_with fail
  refine (refnum_calls t.length (by omega) w).mono ?_
  rintro e w1 ⟨v, rfl, ho, hb⟩
  have T1 := hid (T.out.below hb)
  have Hb := hid hb
  clear hb
  go_wp2_with (at_builtin; refine wpList_append_b (.tmp 6) (.tmp 7) _ rfl rfl _ 5 info_u8 under_bytes _ _ ho rfl T1.out rfl (by have := Hl.out; omega) Hb.out.size ?_; intro v5 w2 hown1 hg1 hb1 _)
  go_ret
  exact ⟨_, rfl, hown1, Hb.out.trans hb1⟩

/-! ### the scripts of this layer -/
structure OpD where
  d : Nat
  n : Int
  a : Option Addr
  cap : Nat
  t : List UInt8

def opV (o : OpD) : List Value := [.int .u8 (o.d : Int), .int .i64 o.n, .slice o.a o.t.length o.cap]
theorem opV_length (o : OpD) : (opV o).length = 3 := rfl
def OkOp (w : World) (o : OpD) : Prop := o.d < 256 ∧ (-9223372036854775808 ≤ o.n ∧ o.n ≤ 9223372036854775807) ∧ BS w o.a o.cap o.t

end Go.Proofs.YtmmcmldcbdaooaaDoor
