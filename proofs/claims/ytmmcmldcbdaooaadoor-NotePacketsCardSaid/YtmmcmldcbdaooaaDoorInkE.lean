/- The walks of layer 1: the document's eye. -/
import Derived.Test.YtmmcmldcbdaooaaDoorInkD
namespace Go.Proofs.YtmmcmldcbdaooaaDoor
open Go.RowKit Go.Quad _root_.Quad.Ink


/-- where an eye's bytes lie: in the block A, or nowhere -/
def Loc (g A : Nat) (a : Option Addr) (p : List UInt8) : Prop := p = [] ∨ (A ≠ g ∧ ∃ off, a = some ⟨A, off, none⟩)

theorem Loc.row {S : List Nat} {w w' : World} {g A : Nat} {a : Option Addr} {cap : Nat} {p : List UInt8} (h : Loc g A a p) (hb : BS w a cap p) (hc : Chg S w w') (hA : A ≠ g → A ∉ S) : BS w' a cap p := by
  rcases h with rfl | ⟨hne, off, rfl⟩
  · exact bs_void hb
  · exact cs_chg hb hc (fun x hx => by cases hx; exact hA hne)

theorem Loc.take {g A : Nat} {a : Option Addr} {p : List UInt8} (h : Loc g A a p) (n : Nat) : Loc g A a (p.take n) := Or.imp (fun e => by rw [e]; simp) id h

/-- the document's eye in memory: at g, its bytes at a -/
structure IsREye (w : World) (g A : Nat) (a : Option Addr) (cap : Nat) (p : List UInt8) (bad : Bool) : Prop where
  own : Blk w g [.slice a p.length cap, .bool bad] 129
  row : BS w a cap p
  loc : Loc g A a p

def REyeAt (w : World) (g A : Nat) (p : List UInt8) (bad : Bool) : Prop := ∃ a cap, IsREye w g A a cap p bad

theorem REyeAt.below {w w' : World} {g A : Nat} {p : List UInt8} {bad : Bool} (h : REyeAt w g A p bad) (hb : Below w.heap.size w w') : REyeAt w' g A p bad := by
  obtain ⟨a, cap, h⟩ := h
  exact ⟨a, cap, h.own.below hb, h.row.below hb, h.loc⟩

theorem IsREye.put1 {w : World} {g A : Nat} {a a' : Option Addr} {cap cap' : Nat} {p p' : List UInt8} {bad : Bool} (h : IsREye w g A a cap p bad) (hb : BS w a' cap' p') (hl : Loc g A a' p') :
    IsREye (w.setCell ⟨g, 0, none⟩ (.slice a' p'.length cap')) g A a' cap' p' bad := by
  have c1 := chg_setCell w g 0 (.slice a' p'.length cap')
  refine ⟨?_, hl.row hb c1 (by simp), hl⟩
  have := h.own.set 0 (.slice a' p'.length cap')
  simpa using this

theorem IsREye.put {w : World} {g A : Nat} {a a' : Option Addr} {cap cap' : Nat} {p p' : List UInt8} {bad bad' : Bool} (h : IsREye w g A a cap p bad) (hb : BS w a' cap' p') (hl : Loc g A a' p') :
    REyeAt ((w.setCell ⟨g, 0, none⟩ (.slice a' p'.length cap')).setCell ⟨g, 1, none⟩ (.bool bad')) g A p' bad' := by
  have h1 := h.put1 hb hl
  have c2 := chg_setCell (w.setCell ⟨g, 0, none⟩ (.slice a' p'.length cap')) g 1 (.bool bad')
  refine ⟨a', cap', ?_, hl.row h1.row c2 (by simp), hl⟩
  have := h1.own.set 1 (.bool bad')
  simpa using this

set_option maxHeartbeats 1000000 in
theorem rnum_calls (w : World) (g A : Nat) (s : St) (h : REyeAt w g A s.1 s.2) :
    Calls Tryd.prog 86 #[.pointer (some ⟨g, 0, none⟩)] w fun e w' =>
      e = .returned (.int .u64 ((numS s).1 : Int)) ∧ REyeAt w' g A (numS s).2.1 (numS s).2.2 ∧ Chg [g] w w' := by
  obtain ⟨p, bad⟩ := s
  obtain ⟨a, cap, h⟩ := h
  have c0 : w.cell? ⟨g, 0, none⟩ = some (.slice a p.length cap) := by rw [h.own.cell]; rfl
  have c1 : w.cell? ⟨g, 1, none⟩ = some (.bool bad) := by rw [h.own.cell]; rfl
  have H := hid h
  clear h
  cases bad
  · go_enter Tryd.func86, Tryd.ntmps86
    go_wp2_with fail
    refine (take_calls a cap p w H.out.row).mono ?_
    intro e w1 ht
    unfold TakeTo at ht
    cases hrd : rd 0 p with
    | none =>
      rw [hrd] at ht
      have N := hid (show numS (p, false) = (0, [], true) by simp only [numS, numTo, hrd, Bool.false_eq_true, if_false])
      obtain ⟨rfl, hb⟩ := ht
      have Hb := hid hb
      have H1 := hid (show IsREye w1 g A a cap p false from ⟨H.out.own.below hb, H.out.row.below hb, H.out.loc⟩)
      clear hb hrd c0 c1
      have c0 : w1.cell? ⟨g, 0, none⟩ = some (.slice a p.length cap) := by rw [H1.out.own.cell]; rfl
      have c1 : w1.cell? ⟨g, 1, none⟩ = some (.bool false) := by rw [H1.out.own.cell]; rfl
      have f0 := H1.out.own.free 0
      have f1 := H1.out.own.free 1
      go_wp2_with fail
      go_ret
      rw [N.out]
      refine ⟨rfl, ?_, ((Chg.of_below _ Hb.out).trans (chg_setCell _ g 0 _)).trans (chg_setCell _ g 1 _)⟩
      exact H1.out.put (bad' := true) (BS.nil w1) (.inl rfl)
    | some x =>
      obtain ⟨n, r⟩ := x
      rw [hrd] at ht
      have N := hid (show numS (p, false) = (n, r, false) by simp only [numS, numTo, hrd, Bool.false_eq_true, if_false])
      obtain ⟨⟨a', c', rfl, hs, hx⟩, hb⟩ := ht
      have Hb := hid hb
      have S := hid hs
      have X := hid hx
      have H1 := hid (show IsREye w1 g A a cap p false from ⟨H.out.own.below hb, H.out.row.below hb, H.out.loc⟩)
      clear hb hrd c0 c1 hs hx
      have c0 : w1.cell? ⟨g, 0, none⟩ = some (.slice a p.length cap) := by rw [H1.out.own.cell]; rfl
      have c1 : w1.cell? ⟨g, 1, none⟩ = some (.bool false) := by rw [H1.out.own.cell]; rfl
      have f0 := H1.out.own.free 0
      have f1 := H1.out.own.free 1
      go_wp2_with fail
      go_ret
      rw [N.out]
      refine ⟨rfl, ?_, ((Chg.of_below _ Hb.out).trans (chg_setCell _ g 0 _)).trans (chg_setCell _ g 1 _)⟩
      refine H1.out.put (bad' := false) S.out ?_
      cases a' with
      | none => exact .inl (List.eq_nil_of_length_eq_zero (by have := S.out.fit'; have := CS.none S.out rfl; omega))
      | some x =>
        obtain ⟨b, off, spot⟩ := x
        obtain ⟨hsp, y, hy, hxy⟩ := X.out _ rfl
        dsimp only at hsp hxy
        subst hsp hxy
        rcases H1.out.loc with rfl | ⟨hne, o2, e2⟩
        · exact absurd N.out (by simp [numS, numTo, rd])
        · rw [e2] at hy
          cases hy
          exact .inr ⟨hne, off, rfl⟩
  · go_enter Tryd.func86, Tryd.ntmps86
    go_wp2_with fail
    go_ret
    exact ⟨rfl, ⟨a, cap, H.out⟩, Chg.refl _ _⟩

end Go.Proofs.YtmmcmldcbdaooaaDoor
