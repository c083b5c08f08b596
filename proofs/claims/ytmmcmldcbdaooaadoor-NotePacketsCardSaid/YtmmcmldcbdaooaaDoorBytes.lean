/- Bytes: what is common to all walks over bytes. -/
import Derived.Test.YtmmcmldcbdaooaaDoorRows
import Derived.Test.YtmmcmldcbdaooaaDoorLists
import Derived.Deep.DeepMust
namespace Go.Proofs.YtmmcmldcbdaooaaDoor
open Go.RowKit Go.Quad

theorem under_bytes : Tryd.prog.underlying 23 = some (.slice 5) := by kernel_rfl
theorem under_u8 : Tryd.prog.underlying 5 = some (.int .u8) := by kernel_rfl
theorem under_str : Tryd.prog.underlying 9 = some .string := by kernel_rfl
theorem info_u8 : (Tryd.prog.info? 5).map (fun i => (i.zero, i.size, i.bytes)) = some (some (.int .u8 0), 1, 1) := by kernel_rfl

def RetB (B : Nat) (w : World) (l : List UInt8) (e : Ending) (w' : World) : Prop := ∃ v, e = .returned v ∧ OB w' B 5 v l ∧ Below B w w'
theorem OB.empty (w : World) : OB (w.alloc (.cells #[] 5)) w.heap.size 5 (.slice (some ⟨w.heap.size, 0, none⟩) 0 0) [] := OB.lit 5 [] (Nat.le_refl _) (by simp)
theorem u8v_of' (n : Nat) (h : n < 256) : u8v (UInt8.ofNat n) = .int .u8 (n : Int) := by
  unfold u8v; simp; omega

set_option maxHeartbeats 400000 in
theorem same_calls (a a' : Option Addr) (cap cap' : Nat) (l l' : List UInt8) (w : World) (h : BS w a cap l) (h' : BS w a' cap' l') :
    Calls Tryd.prog 13 #[.slice a l.length cap, .slice a' l'.length cap'] w fun e w' => e = .returned (.bool (l == l')) ∧ w = w' := by
  have h1 := run_convert_b (P := Tryd.prog) 23 9 5 under_bytes under_u8 under_str h
  have h2 := run_convert_b (P := Tryd.prog) 23 9 5 under_bytes under_u8 under_str h'
  clear h h'
  go_enter Tryd.func13, Tryd.ntmps13
  go_wp2_with fail
  go_ret
  exact ⟨rfl, rfl⟩

set_option maxHeartbeats 400000 in
theorem clone_calls (a : Option Addr) (cap : Nat) (l : List UInt8) (w : World) (h : BS w a cap l) (hn : l.length ≤ 140737488355328) :
    Calls Tryd.prog 83 #[.slice a l.length cap] w (RetB w.heap.size w l) := by
  have e1 := fun w => Lib.run_eql_slice_nil (P := Tryd.prog) w 23 5 a l.length cap 0 0 under_bytes
  have hown := OB.empty w
  have hsrc := h.below (below_alloc w (.cells #[] 5))
  cases a with
  | none =>
    have hl : l = [] := by
      have := h.fit'; have := h.none rfl; exact List.eq_nil_of_length_eq_zero (by omega)
    subst hl
    simp only [List.length_nil, Option.isNone_none] at e1 ⊢
    go_enter Tryd.func83, Tryd.ntmps83
    go_wp2_with fail
    go_ret
    exact ⟨_, rfl, World.ownsRow_nil w _ _ _, Below.refl _ _⟩
  | some x =>
    have Hn := hid hn
    clear h hn
    go_enter Tryd.func83, Tryd.ntmps83
    go_wp2_with (at_builtin; refine wpList_append_b (.tmp 5) (.tmp 6) _ rfl rfl _ 5 info_u8 under_bytes _ _ hown rfl hsrc rfl (by have := Hn.out; simpa using this) (by simp) ?_; intro v5 w1 hown1 hg1 hb1 _)
    go_ret
    exact ⟨_, rfl, hown1, (below_alloc _ _).trans hb1⟩

theorem same_n (a a' : Option Addr) (n n' cap cap' : Nat) (l l' : List UInt8) (w : World) (h : BS w a cap l) (h' : BS w a' cap' l') (hn : l.length = n) (hn' : l'.length = n') :
    Calls Tryd.prog 13 #[.slice a n cap, .slice a' n' cap'] w fun e w' => e = .returned (.bool (l == l')) ∧ w = w' := by
  subst hn hn'; exact same_calls a a' cap cap' l l' w h h'

theorem cs_chg {S : List Nat} {w w' : World} {a : Option Addr} {cap : Nat} {l : List UInt8} (h : BS w a cap l) (hc : Chg S w w') (hs : ∀ x, a = some x → x.block ∉ S) : BS w' a cap l :=
  ⟨CS.fit h, CS.max h, CS.none h, (CS.at' h).imp id fun ⟨b, off, e, hh⟩ => ⟨b, off, e, fun i v hv => by
    have hv' := hh i v hv
    have hlt := World.block_lt_of_cell? w ⟨b, off + i, none⟩ hv'
    rw [← hv']
    exact World.cell?_of_block (w := w) (hc.block b hlt (hs _ e))⟩⟩

theorem bs_keep {S : List Nat} {w w' : World} {a : Option Addr} {cap : Nat} {l : List UInt8} (h : BS w a cap l) (hc : Chg S w w') (hs : l = [] ∨ ∀ x, a = some x → x.block ∉ S) : BS w' a cap l := by
  rcases hs with rfl | hs
  · exact ⟨CS.fit h, CS.max h, CS.none h, .inl rfl⟩
  · exact cs_chg h hc hs
end Go.Proofs.YtmmcmldcbdaooaaDoor
