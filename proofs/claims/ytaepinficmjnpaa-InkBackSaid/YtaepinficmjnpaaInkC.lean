/- The walks of layer 1: the pen's texts, the document's examples. -/
import Derived.Test.YtaepinficmjnpaaInkB
import Derived.Lib.SlBytesConst
namespace Go.Proofs.Ytaepinficmjnpaa
open Go.RowKit Go.Quad _root_.Quad.Ink

theorem cs_chg {S : List Nat} {w w' : World} {a : Option Addr} {cap : Nat} {l : List UInt8} (h : BS w a cap l) (hc : Chg S w w') (hs : ∀ x, a = some x → x.block ∉ S) : BS w' a cap l :=
  ⟨CS.fit h, CS.max h, CS.none h, (CS.at' h).imp id fun ⟨b, off, e, hh⟩ => ⟨b, off, e, fun i v hv => by
    have hv' := hh i v hv
    have hlt := World.block_lt_of_cell? w ⟨b, off + i, none⟩ hv'
    rw [← hv']
    exact World.cell?_of_block (w := w) (hc.block b hlt (hs _ e))⟩⟩

theorem bs_void {w w' : World} {a : Option Addr} {cap : Nat} (h : BS w a cap []) : BS w' a cap [] := ⟨CS.fit h, CS.max h, CS.none h, .inl rfl⟩

/-- not in a pen's memory -/
def OffPen (g : Nat) (s : Value) (a : Option Addr) (t : List UInt8) : Prop := t = [] ∨ ∀ x, a = some x → x.block ∉ penS g s

set_option maxHeartbeats 1000000 in
theorem pentext_calls (w : World) (B g : Nat) (s : Value) (l : List UInt8) (a : Option Addr) (cap : Nat) (t : List UInt8) (h : IsPen w B g s l false) (hl : l.length ≤ 900000) (ht : BS w a cap t) (hn : t.length ≤ 50000) (ho : OffPen g s a t) :
    Calls Try.prog 20 #[.pointer (some ⟨g, 0, none⟩), .slice a t.length cap] w fun e w' =>
      e = .returned (.tuple #[]) ∧ ∃ s', IsPen w' B g s' (l ++ (numL t.length ++ t)) false ∧ Chg (penS g s) w w' ∧ (∀ k, s'.ownBlock = some k → s.ownBlock = some k ∨ w.heap.size ≤ k) := by
  have hn' : (t.length : Int) ≤ 50000 := by omega
  have H := hid h
  have T := hid ht
  have Hl := hid hl
  have O := hid ho
  clear h ht hl ho
  go_enter Try.func20, Try.ntmps20
  go_wp2_with fail
  refine (pennum_calls t.length (by omega) w B g s l H.out (by have := Hl.out; omega)).mono ?_
  rintro e w1 ⟨rfl, s1, h1, hc1, hw1⟩
  have c1 : w1.cell? ⟨g, 1, none⟩ = some (.bool false) := by rw [h1.own.cell]; rfl
  have T1 := hid (Or.elim O.out (fun e => by subst e; exact bs_void T.out) (fun o => cs_chg T.out hc1 o))
  obtain ⟨a1, cap1, rfl, _, _⟩ := h1.row.bs
  have c0 : w1.cell? ⟨g, 0, none⟩ = some (.slice a1 (l ++ numL t.length).length cap1) := by rw [h1.own.cell]; rfl
  have hlen := numL_len10 (n := t.length) (by omega)
  have hbd : l.length + (numL t.length).length + t.length ≤ 1000000 := by have := Hl.out; omega
  have Hbd := hid hbd
  have H1 := hid h1
  have C1 := hid hc1
  have W1 := hid hw1
  have hown := h1.row
  clear h1 hc1 hw1 hlen hbd
  rw [List.length_append] at c0
  go_wp2_with (at_builtin; refine wpList_append_at (.tmp 22) (.tmp 23) _ rfl rfl _ 5 info_u8 under_bytes _ _ hown (by rw [List.length_append]; rfl) T1.out rfl (by have := Hbd.out; rw [List.length_append]; omega) (Nat.le_trans H1.out.ge (Nat.le_of_lt H1.out.own.lt)) ?_; intro v5 w2 hown1 hg1 hw2; obtain ⟨av, cv, e5, _, _⟩ := hown1.bs; subst e5; obtain ⟨c3, f3, P3, C3, W3⟩ := H1.out.put (Below.refl _ w1) hown1 hg1 hw2; replace P3 := hid P3; replace C3 := hid C3; replace W3 := hid W3; clear hown1 hg1 hw2 hown)
  go_end0
  have e : (l ++ numL t.length ++ t).length = l.length + ((numL t.length).length + t.length) := by simp only [List.length_append, Nat.add_assoc]
  obtain ⟨C4, W4⟩ := pen_step C1.out W1.out C3.out W3.out
  have P4 := P3.out
  rw [e] at C4 W4 P4
  rw [List.append_assoc] at P4
  exact ⟨rfl, _, P4, C4, W4⟩

theorem EyeAt.below {w w' : World} {B g : Nat} {p : List UInt8} {bad : Bool} (h : EyeAt w B g p bad) (hb : Below w.heap.size w w') : EyeAt w' B g p bad := by
  obtain ⟨a, cap, h⟩ := h
  exact ⟨a, cap, h.own.below hb, h.row.below hb, h.ge, h.up, h.lt, h.form⟩

theorem below_chg {S : List Nat} {B : Nat} {w w1 w2 : World} (h : Below B w w1) (hB : B ≤ w1.heap.size) (hc : Chg S w1 w2) (hs : ∀ k ∈ S, B ≤ k) : Below B w w2 := h.trans (hc.below hB hs)

theorem IsPen.pens {w : World} {B g : Nat} {s : Value} {l : List UInt8} {bad : Bool} (h : IsPen w B g s l bad) : ∀ k ∈ penS g s, B ≤ k := by
  intro k hk
  rcases List.mem_cons.1 hk with rfl | hk
  · exact h.ge
  · exact h.row.ownBlock k (by simpa using hk)

theorem lit_marked (w : World) (l : List UInt8) (hm : l.length ≤ maxLen) (fr : Nat × Nat) : BS (w.alloc (.cells (l.map u8v).toArray 5 fr)) (some ⟨w.heap.size, 0, none⟩) l.length l :=
  BS.of_row rfl (Nat.le_refl _) hm fun i hi => by
    have hh : (w.alloc (.cells (l.map u8v).toArray 5 fr)).heap[w.heap.size]? = some (.cells (l.map u8v).toArray 5 fr) := heap_alloc_new w _
    unfold World.cell?
    rw [hh]
    simp [hi, u8v]

set_option maxHeartbeats 1000000 in
theorem awake_calls (w : World) :
    Calls Try.prog 9 #[] w fun e w' => e = .returned (.bool true) ∧ Below w.heap.size w w' := by
  have kc := fun (w : World) => Lib.run_convert_bytes_const (P := Try.prog) w 27 5 #[.int .u8 97, .int .u8 98] 2 2 under_bytes under_u8
  go_enter Try.func9, Try.ntmps9
  go_wp2_with fail
  refine (new_calls w).mono ?_
  rintro e w1 ⟨g, rfl, h1, hg, hb1⟩
  have H1 := hid h1
  have Hb1 := hid hb1
  clear h1 hb1 hg
  go_wp2_with fail
  refine (pennum_calls 300 (by omega) w1 _ g _ _ H1.out (by simp)).mono ?_
  rintro e w2 ⟨rfl, s2, h2, hc2, hw2⟩
  have Hb2 := hid (below_chg Hb1.out Hb1.out.size hc2 H1.out.pens)
  have H2 := hid h2
  clear h2 hc2 hw2
  go_wp2_with fail
  have T := lit_marked w2 [97, 98] (by simp [maxLen]) (2, 3)
  have hbA : Below w2.heap.size w2 (w2.alloc (.cells #[.int .u8 97, .int .u8 98] 5 (2, 3))) := below_alloc w2 _
  have n300 : numL 300 = [172, 2] := by rw [numL_big (by decide), numL_small (by decide)]; rfl
  have n2 : numL 2 = [2] := by rw [numL_small (by decide)]; rfl
  have h3 := H2.out.below hbA
  rw [n300, List.nil_append] at h3
  have Hb3 := hid (Hb2.out.trans (hbA.mono Hb2.out.size))
  have H3 := hid h3
  have ng : g < w2.heap.size := H2.out.own.lt
  have tx := pentext_calls _ _ g s2 _ _ 2 [97, 98] h3 (by simp) T (by simp) (.inr (by
    intro x hx hm
    cases hx
    rcases List.mem_cons.1 hm with e | e
    · simp only at e; omega
    · have := H2.out.row.ownLt (k := w2.heap.size) (by simpa using e)
      omega))
  clear h3 hbA
  refine tx.mono ?_
  rintro e w3 ⟨rfl, s3, h4, hc3, _⟩
  have e4 : [172, 2] ++ (numL ([97, 98] : List UInt8).length ++ [97, 98]) = ([172, 2, 2, 97, 98] : List UInt8) := by
    rw [show ([97, 98] : List UInt8).length = 2 from rfl, n2]; rfl
  rw [e4] at h4
  have Hb4 := hid (below_chg Hb3.out Hb3.out.size hc3 H3.out.pens)
  have H4 := hid h4
  clear h4 hc3 tx T e4 n300 n2 ng
  go_wp2_with fail
  have T2 := lit_marked w3 [128, 0] (by simp [maxLen]) (0, 0)
  refine (read_calls _ 2 [128, 0] _ T2 (by simp)).mono ?_
  rintro e w4 ⟨g4, rfl, hE, hb4⟩
  have hbA : Below w3.heap.size w3 w4 := below_step (below_alloc w3 _) hb4
  have H5 := hid (H4.out.below hbA)
  have Hb5 := hid (Hb4.out.trans (hbA.mono Hb4.out.size))
  have HE := hid hE
  clear T2 hE hb4 hbA
  go_wp2_with fail
  refine (bytes_calls _ _ g s3 _ H5.out (by simp)).mono ?_
  rintro e w5 ⟨v, rfl, ho, hb⟩
  obtain ⟨a5, c5, rfl, hs5, _⟩ := ho.bs
  have Hs5 := hid hs5
  have HE5 := hid (HE.out.below hb)
  have Hb6 := hid (Hb5.out.trans (hb.mono Hb5.out.size))
  clear ho hs5 hb
  go_wp2_with fail
  have T5 := lit_marked w5 [172, 2, 2, 97, 98] (by simp [maxLen]) (0, 0)
  have hbA : Below w5.heap.size w5 (w5.alloc (.cells (([172, 2, 2, 97, 98] : List UInt8).map u8v).toArray 5 (0, 0))) := below_alloc w5 _
  have sm := same_calls _ _ _ _ _ _ _ (Hs5.out.below hbA) T5
  have HE6 := HE5.out.below hbA
  have Hb7 := hid (Hb6.out.trans (hbA.mono Hb6.out.size))
  clear T5 hbA
  refine sm.mono ?_
  rintro e w' ⟨rfl, rfl⟩
  rw [beq_self_eq_true]
  have HE7 := hid HE6
  clear sm HE6
  go_wp2_with fail
  have hB4 := HE7.out
  obtain ⟨_, _, hI⟩ := hB4
  have Hge := hid (show w.heap.size ≤ g4 from Nat.le_trans Hb4.out.size (Nat.le_trans (below_alloc w3 _).size hI.ge))
  clear hI
  refine (eyenum_calls _ _ g4 _ HE7.out).mono ?_
  have e0 : numTo [128, 0] = (0, [], true) := by rfl
  rw [e0]
  rintro e w8 ⟨rfl, hE8, hC8⟩
  have HE8 := hid hE8
  have Hb8 := hid (below_chg Hb7.out Hb7.out.size hC8 (by intro k hk; simp at hk; rw [hk]; exact Hge.out))
  clear hE8 hC8 e0
  go_wp2_with fail
  refine (end_calls _ _ g4 _ _ HE8.out).mono ?_
  rintro e w' ⟨rfl, rfl⟩
  go_wp2_with fail
  go_ret
  exact ⟨rfl, Hb8.out⟩
end Go.Proofs.Ytaepinficmjnpaa
