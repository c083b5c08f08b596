/- The walks of layer 1: the pen's texts, the document's examples. -/
import Derived.Test.YtmmcmldcbdaooaaDoorInkB
import Derived.Lib.SlBytesConst
namespace Go.Proofs.YtmmcmldcbdaooaaDoor
open Go.RowKit Go.Quad _root_.Quad.Ink

/-- not in a pen's memory -/
def OffPen (g : Nat) (s : Value) (a : Option Addr) (t : List UInt8) : Prop := t = [] ∨ ∀ x, a = some x → x.block ∉ penS g s

set_option maxHeartbeats 1000000 in
theorem pentext_calls (w : World) (B g : Nat) (s : Value) (l : List UInt8) (a : Option Addr) (cap : Nat) (t : List UInt8) (h : IsPen w B g s l false) (hl : l.length ≤ 900000) (ht : BS w a cap t) (hn : t.length ≤ 50000) (ho : OffPen g s a t) :
    Calls Tryd.prog 38 #[.pointer (some ⟨g, 0, none⟩), .slice a t.length cap] w fun e w' =>
      e = .returned (.tuple #[]) ∧ ∃ s', IsPen w' B g s' (l ++ (numL t.length ++ t)) false ∧ Chg (penS g s) w w' ∧ (∀ k, s'.ownBlock = some k → s.ownBlock = some k ∨ w.heap.size ≤ k) := by
  have hn' : (t.length : Int) ≤ 50000 := by omega
  have H := hid h
  have T := hid ht
  have Hl := hid hl
  have O := hid ho
  clear h ht hl ho
  go_enter Tryd.func38, Tryd.ntmps38
  go_wp2_with fail
  refine (pennum_calls t.length (by omega) w B g s l H.out (by have := Hl.out; omega)).mono ?_
  rintro e w1 ⟨rfl, s1, h1, hc1, hw1⟩
  have c1 : w1.cell? ⟨g, 1, none⟩ = some (.bool false) := by rw [h1.own.cell]; rfl
  have T1 := hid (Or.elim O.out (fun e => by subst e; exact bs_void T.out) (fun o => cs_chg T.out hc1 o))
  obtain ⟨a1, cap1, rfl, _, _⟩ := h1.row.bs
  have c0 : w1.cell? ⟨g, 0, none⟩ = some (.slice a1 (l ++ numL t.length).length cap1) := by rw [h1.own.cell]; rfl
  have hlen := numL_len10 (n := t.length) (by omega)
  have hbd : l.length + (numL t.length).length + t.length ≤ 1000000 := by have := Hl.out; omega
  have Hbd := hid hbd
  have H1 := hid h1
  have C1 := hid hc1
  have W1 := hid hw1
  have hown := h1.row
  clear h1 hc1 hw1 hlen hbd
  rw [List.length_append] at c0
  go_wp2_with (at_builtin; refine wpList_append_at (.tmp 22) (.tmp 23) _ rfl rfl _ 5 info_u8 under_bytes _ _ hown (by rw [List.length_append]; rfl) T1.out rfl (by have := Hbd.out; rw [List.length_append]; omega) (Nat.le_trans H1.out.ge (Nat.le_of_lt H1.out.own.lt)) ?_; intro v5 w2 hown1 hg1 hw2; obtain ⟨av, cv, e5, _, _⟩ := hown1.bs; subst e5; obtain ⟨c3, f3, P3, C3, W3⟩ := H1.out.put (Below.refl _ w1) hown1 hg1 hw2; replace P3 := hid P3; replace C3 := hid C3; replace W3 := hid W3; clear hown1 hg1 hw2 hown)
  go_end0
  have e : (l ++ numL t.length ++ t).length = l.length + ((numL t.length).length + t.length) := by simp only [List.length_append, Nat.add_assoc]
  obtain ⟨C4, W4⟩ := pen_step C1.out W1.out C3.out W3.out
  have P4 := P3.out
  rw [e] at C4 W4 P4
  rw [List.append_assoc] at P4
  exact ⟨rfl, _, P4, C4, W4⟩

theorem EyeAt.below {w w' : World} {B g : Nat} {p : List UInt8} {bad : Bool} (h : EyeAt w B g p bad) (hb : Below w.heap.size w w') : EyeAt w' B g p bad := by
  obtain ⟨a, cap, h⟩ := h
  exact ⟨a, cap, h.own.below hb, h.row.below hb, h.ge, h.up, h.lt, h.form⟩

theorem below_chg {S : List Nat} {B : Nat} {w w1 w2 : World} (h : Below B w w1) (hB : B ≤ w1.heap.size) (hc : Chg S w1 w2) (hs : ∀ k ∈ S, B ≤ k) : Below B w w2 := h.trans (hc.below hB hs)

theorem IsPen.pens {w : World} {B g : Nat} {s : Value} {l : List UInt8} {bad : Bool} (h : IsPen w B g s l bad) : ∀ k ∈ penS g s, B ≤ k := by
  intro k hk
  rcases List.mem_cons.1 hk with rfl | hk
  · exact h.ge
  · exact h.row.ownBlock k (by simpa using hk)

theorem lit_marked (w : World) (l : List UInt8) (hm : l.length ≤ maxLen) (fr : Nat × Nat) : BS (w.alloc (.cells (l.map u8v).toArray 5 fr)) (some ⟨w.heap.size, 0, none⟩) l.length l :=
  BS.of_row rfl (Nat.le_refl _) hm fun i hi => by
    have hh : (w.alloc (.cells (l.map u8v).toArray 5 fr)).heap[w.heap.size]? = some (.cells (l.map u8v).toArray 5 fr) := heap_alloc_new w _
    unfold World.cell?
    rw [hh]
    simp [hi, u8v]

end Go.Proofs.YtmmcmldcbdaooaaDoor
