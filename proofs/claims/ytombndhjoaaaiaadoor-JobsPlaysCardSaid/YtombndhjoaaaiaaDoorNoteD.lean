/- The walks of layer 4: numbers with a pen, a whole knot out of what is written. -/
import Derived.Test.YtombndhjoaaaiaaDoorNoteC
import Derived.Test.YtombndhjoaaaiaaDoorInkA
import Derived.Test.YtombndhjoaaaiaaDoorKnotC
namespace Go.Proofs.YtombndhjoaaaiaaDoor
open Go.RowKit Go.Quad _root_.Quad _root_.Quad.Ink

def u64v (n : Nat) : Value := .int .u64 (n : Int)

/-- a pen that was made behind a world; what was there then stands as it stood -/
def PenB (w0 : World) (g : Nat) (l : List UInt8) (w : World) : Prop := ∃ s, IsPen w w0.heap.size g s l false ∧ Below w0.heap.size w0 w

theorem PenB.bel {w0 w : World} {g : Nat} {l : List UInt8} (h : PenB w0 g l w) : Below w0.heap.size w0 w := by obtain ⟨s, _, hb⟩ := h; exact hb
theorem PenB.step {w0 w w' : World} {g : Nat} {l l' : List UInt8} {s : Value} {e : Ending} (h : IsPen w w0.heap.size g s l false) (hb : Below w0.heap.size w0 w) (ht : PenTo w w0.heap.size g s l' false e w') : e = .returned (.tuple #[]) ∧ PenB w0 g l' w' := by
  obtain ⟨rfl, s', h1, h2, _⟩ := ht
  exact ⟨rfl, s', h1, below_chg hb hb.size h2 h.pens⟩

def PenEnd (w0 : World) (g : Nat) (l : List UInt8) (e : Ending) (w' : World) : Prop := e = .returned (.tuple #[]) ∧ PenB w0 g l w'

theorem pn_num {w0 w : World} {g : Nat} {l : List UInt8} (h : PenB w0 g l w) (n : Nat) (hn : n < 18446744073709551616) (hl : l.length ≤ 1000000) :
    Calls Tryd.prog 48 #[.pointer (some ⟨g, 0, none⟩), .int .u64 (n : Int)] w (PenEnd w0 g (l ++ numL n)) := by
  obtain ⟨s, hp, hb⟩ := h
  exact (pnum_any n hn w _ g s l false hp hl).mono fun e w' ht => PenB.step hp hb ht
theorem pn_int {w0 w : World} {g : Nat} {l : List UInt8} (h : PenB w0 g l w) (n : Int) (hn : 0 ≤ n ∧ n ≤ 9223372036854775807) (hl : l.length ≤ 1000000) :
    Calls Tryd.prog 61 #[.pointer (some ⟨g, 0, none⟩), .int .i64 n] w (PenEnd w0 g (l ++ numL n.toNat)) := by
  obtain ⟨s, hp, hb⟩ := h
  refine (pint_any n (by omega) w _ g s l false hp hl).mono fun e w' ht => PenB.step hp hb ?_
  have e1 : intN n false l = l ++ numL n.toNat := by unfold intN addN; rw [if_neg (by omega)]; simp
  have e2 : (false || decide (n < 0)) = false := by simp; omega
  rw [e1, e2] at ht
  exact ht
theorem pn_bool {w0 w : World} {g : Nat} {l : List UInt8} (h : PenB w0 g l w) (b : Bool) (hl : l.length ≤ 1000000) :
    Calls Tryd.prog 68 #[.pointer (some ⟨g, 0, none⟩), .bool b] w (PenEnd w0 g (l ++ numL (if b then 1 else 0))) := by
  obtain ⟨s, hp, hb⟩ := h
  exact (pbool_any b w _ g s l false hp hl).mono fun e w' ht => PenB.step hp hb ht
def NumsRel (w : World) (B g : Nat) (s : Value) (l : List UInt8) (L : List Nat) (iv : Value) (wr : World) : Prop :=
  ∃ (k : Nat) (s' : Value), iv = .int .i64 (k : Int) ∧ k ≤ L.length ∧ IsPen wr B g s' (l ++ rowN (L.take k)) false ∧ Chg (penS g s) w wr ∧ (∀ q, s'.ownBlock = some q → s.ownBlock = some q ∨ w.heap.size ≤ q)

theorem rowN_len : ∀ (L : List Nat), Small L → (rowN L).length ≤ 10 * L.length
  | [], _ => by simp [rowN]
  | n :: L, h => by
    have := rowN_len L fun m hm => h m (by simp [hm])
    have := numL_len10 (h n (by simp))
    rw [rowN_cons, List.length_append, List.length_cons]
    omega
theorem Small.take {L : List Nat} (h : Small L) (k : Nat) : Small (L.take k) := fun n hn => h n (List.mem_of_mem_take hn)

set_option maxHeartbeats 1000000 in
theorem pnums_calls (w : World) (B g : Nat) (s : Value) (l : List UInt8) (a : Option Addr) (cap : Nat) (L : List Nat) (h : IsPen w B g s l false) (hl : l.length + 10 * L.length ≤ 900000) (hL : Small L) (hc : CS w a cap 1 (L.map u64v)) (ho : ∀ x, a = some x → x.block ∉ penS g s) :
    Calls Tryd.prog 60 #[.pointer (some ⟨g, 0, none⟩), .slice a L.length cap] w (PenTo w B g s (l ++ rowN L) false) := by
  have hm : L.length ≤ 9223372036854775807 := by omega
  have H := hid h
  have Hl := hid hl
  have HL := hid hL
  have Hc := hid hc
  have Ho := hid ho
  clear h hl hL hc ho
  go_enter Tryd.func60, Tryd.ntmps60
  go_wp2_with fail
  go_loopw [8] (fun iv wr => NumsRel w B g s l L iv wr) (fun iv _ => L.length - (intOf iv).toNat)
  case atStart => exact ⟨0, s, rfl, Nat.zero_le _, by simpa [rowN] using H.out, Chg.refl _ _, fun q hq => .inl hq⟩
  case round =>
    obtain ⟨k, s', rfl, hk, hp, hch, hw⟩ := hrel
    have P := hid hp
    have C := hid hch
    have W := hid hw
    clear hp hch hw
    by_cases hlt : k < L.length
    · obtain ⟨b, off, rfl, hcell⟩ := (Hc.out.chg C.out Ho.out).at (by simp; omega)
      have d := hcell k (u64v L[k]) (by simp [hlt])
      have hn := HL.out _ (List.getElem_mem hlt)
      have hlk : (l ++ rowN (L.take k)).length ≤ 1000000 := by
        have := rowN_len _ (Small.take HL.out k)
        have := Hl.out
        rw [List.length_append]
        rw [List.length_take] at *
        omega
      have e1 : rowN (L.take (k + 1)) = rowN (L.take k) ++ numL L[k] := by rw [List.take_succ_eq_append_getElem hlt, rowN_append]; simp [rowN]
      have E1 := hid e1
      have Hlk := hid hlk
      unfold u64v at d
      generalize L[k] = n at d hn E1
      have Hn := hid hn
      clear e1 hcell hlk hn
      have hlt' : (k : Int) < (L.length : Int) := by omega
      go_wp2_with fail
      refine (pnum_any n Hn.out wr B g s' _ false P.out Hlk.out).mono ?_
      rintro e w1 ⟨rfl, s1, hp1, hc1, hw1⟩
      obtain ⟨C4, W4⟩ := pen_step C.out W.out hc1 hw1
      have R1 : NumsRel w B g s l L (.int .i64 ((k : Int) + 1)) w1 := ⟨k + 1, s1, by go_num, by omega, by rw [E1.out, ← List.append_assoc]; exact hp1, C4, W4⟩
      have HR := hid R1
      clear R1 C4 W4 hp1 hc1 hw1
      go_wp2_with fail
      refine ⟨?_, by simp [intOf]; omega⟩
      first | exact HR.out | ((repeat apply Exists.intro); refine ⟨HR.out, ?_⟩; and_intros <;> rfl)
    · have hlt' : ¬ ((k : Int) < (L.length : Int)) := by omega
      go_wp2_with fail
      go_end0
      refine ⟨rfl, s', ?_, C.out, W.out⟩
      have := P.out
      rwa [List.take_of_length_le (by omega)] at this

theorem pn_nums {w0 w : World} {g : Nat} {l : List UInt8} (h : PenB w0 g l w) (L : List Nat) (n : Nat) (hn : L.length = n) (cs : Array Value) (hcs : cs = (L.map u64v).toArray) (hL : Small L) (hl : l.length + 10 * L.length ≤ 900000) :
    Calls Tryd.prog 60 #[.pointer (some ⟨g, 0, none⟩), .slice (some ⟨w.heap.size, 0, none⟩) n n] (w.alloc (.cells cs 97)) (PenEnd w0 g (l ++ rowN L)) := by
  subst hn hcs
  obtain ⟨s, hp, hb⟩ := h
  have hb2 := below_alloc w (.cells (L.map u64v).toArray 97)
  have hp2 := hp.below hb2
  refine (pnums_calls _ _ g s l _ L.length L hp2 hl hL (cs_lit w (L.map u64v) 97 L.length 1 (by simp) (by unfold maxLen; omega)) ?_).mono fun e w' ht => PenB.step hp2 (hb.trans (hb2.mono hb.size)) ht
  intro x hx hm
  cases hx
  simp only [penS, List.mem_cons, Option.mem_toList] at hm
  rcases hm with e | e
  · have := hp.own.lt; omega
  · have := hp.row.ownLt e; omega

theorem run_enter {P : Program} {f : FuncId} {fn : Func} {c : Code} (hf : P.funcs[f]? = some fn) (hname : (fn.name == "runtime.NumGoroutine") = false) (hb : fn.body = some c) (args : Array Value) (w : World) : (callFunc f args).run P w = .ok (.enter f args) w := by
  have h1 : fn.name ≠ "runtime.NumGoroutine" := by simpa using hname
  simp [callFunc, hf, h1, hb]

set_option maxRecDepth 100000 in
set_option maxHeartbeats 1000000 in
theorem seal_calls (what : Nat) (wv : Int) (hwv : wv = (what : Int)) (f : Nat) (cv : Value) (X : List UInt8) (w : World) (hr : ∀ args w, (callFunc f args).run Tryd.prog w = .ok (.enter f args) w) (hw : what < 128) (hq : Laid w) (hX : X.length ≤ 2047)
    (hC : ∀ w1 g, PenB w g (numL what) w1 → Calls Tryd.prog f #[.pointer (some ⟨g, 0, none⟩), cv] w1 (PenEnd w g (numL what ++ X))) :
    Calls Tryd.prog 57 #[.bool true, .int .u64 wv, .func (.func f) #[] #[cv]] w (RetBE w.heap.size w (tieL (numL what ++ X)) 0) := by
  subst hwv
  have hlen : (numL what ++ X).length ≤ 2048 := by
    rw [numL_small hw, List.length_append, List.length_singleton]; omega
  obtain ⟨Y, hY⟩ : ∃ Y, numL what ++ X = Y := ⟨_, rfl⟩
  rw [hY] at hlen ⊢
  simp only [hY] at hC
  have Hlen := hid hlen
  clear hlen hY
  have HC := hid hC
  have HR := hid hr
  have HX := hid hX
  have Hq := hid hq
  have Hw := hid hw
  clear hC hX hq hw hr
  go_enter Tryd.func57, Tryd.ntmps57
  go_wp2_with fail
  refine (new_calls _).mono ?_
  rintro e w1 ⟨g, rfl, h1, hg, hb1⟩
  clear hg
  have P1 := hid (show PenB w g [] w1 from ⟨_, h1, hb1⟩)
  clear h1 hb1
  go_wp2_with fail
  refine (pn_num P1.out what (by have := Hw.out; omega) (by simp)).mono ?_
  rintro e w2 ⟨rfl, h2⟩
  have P2 := hid h2
  clear h2
  go_wp2_with fail
  rw [List.nil_append] at P2
  rw [HR.out, Oper.upon_enter]
  refine (HC.out w2 g P2.out).mono ?_
  rintro e w3 ⟨rfl, h3⟩
  have P3 := hid h3
  clear h3
  clear HC
  go_wp2_with fail
  obtain ⟨s, hp, hb⟩ := P3.out
  refine (bytes_calls w3 _ g s _ hp (by have := Hlen.out; omega)).mono ?_
  rintro e w4 ⟨v, rfl, ho, hb4⟩
  obtain ⟨a, c, rfl, hs, _⟩ := ho.bs
  have HS := hid hs
  have HB := hid (hb.trans (hb4.mono hb.size))
  clear hp hb ho hs hb4 P3 P2 P1
  go_wp2_with fail
  refine (tie_calls a c _ w4 HS.out (Hq.out.below HB.out Hq.out.1) Hlen.out).mono ?_
  rintro e w5 ⟨v, rfl, ho, hb5⟩
  have HO := hid ho
  have HB5 := hid (HB.out.trans (hb5.mono HB.out.size))
  clear ho hb5
  go_wp2_with fail
  go_ret2
  exact ⟨_, rfl, HO.out.base HB.out.size, HB5.out⟩

theorem seal_no_calls (wv : Int) (fv : Value) (w : World) :
    Calls Tryd.prog 57 #[.bool false, .int .u64 wv, fv] w (RetBE w.heap.size w [] 4) := by
  go_enter Tryd.func57, Tryd.ntmps57
  go_wp2_with fail
  go_ret2
  exact ⟨_, rfl, World.ownsRow_nil _ _ _ _, Below.refl _ _⟩
end Go.Proofs.YtombndhjoaaaiaaDoor
