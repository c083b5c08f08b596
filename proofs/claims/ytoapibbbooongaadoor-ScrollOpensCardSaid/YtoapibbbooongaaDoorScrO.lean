/- What the laws of layer 7 are handed, opened. -/
import Derived.Test.YtoapibbbooongaaDoorScrI
namespace Go.Proofs.YtoapibbbooongaaDoor
open Go.RowKit Go.Quad _root_.Quad _root_.Quad.Slab _root_.Quad.Ink

def AnyB : Nat → Prop := fun _ => True
theorem cellsBL {w : World} : ∀ E : List (List Value), (∀ x ∈ E, x.length = 1 ∧ RC Tryd.prog w 33 x) → ∃ LD : List (Value × List UInt8), LD.length = E.length ∧ E.flatten = LD.flatMap dD ∧ ∀ x ∈ LD, TX w AnyB x.1 x.2 := by
  intro E
  induction E with
  | nil => intro _; exact ⟨[], rfl, rfl, by simp⟩
  | cons x E ih =>
    intro h
    obtain ⟨LD, h1, h2, h3⟩ := ih fun y hy => h y (List.mem_cons_of_mem _ hy)
    obtain ⟨a', c', p, e, hb⟩ := (h x (List.mem_cons_self ..)).2.bytes under_bytes under_u8 (by kernel_rfl)
    refine ⟨(.slice a' p.length c', p) :: LD, by simp [h1], by rw [List.flatten_cons, h2, e, List.flatMap_cons]; rfl, fun q hq => ?_⟩
    rcases List.mem_cons.1 hq with rfl | hq
    · exact ⟨a', c', rfl, hb, fun _ _ => trivial⟩
    · exact h3 q hq
theorem rcbl_open {w : World} {cs : List Value} (h : RC Tryd.prog w 34 cs) : ∃ a c l, cs = [.slice a l.length c] ∧ BL w AnyB (.slice a l.length c) l := by
  obtain ⟨a, cap, E, rfl, hE, hl, hc⟩ := h.slice under_slbs 1 (by kernel_rfl) (by decide)
  obtain ⟨LD, h1, h2, h3⟩ := cellsBL E hE
  exact ⟨a, cap, LD.map (·.2), by rw [List.length_map, h1], ⟨a, cap, LD, rfl, by rw [← h2]; exact hc, rfl, h3, fun _ _ => trivial⟩⟩
theorem rvbl_open {w : World} {v : Value} (h : RV Tryd.prog w 34 v) : ∃ a c l, v = .slice a l.length c ∧ BL w AnyB (.slice a l.length c) l := by
  obtain ⟨a, cap, E, rfl, hE, hl, hc⟩ := h.slice under_slbs 1 (by kernel_rfl) (by decide)
  obtain ⟨LD, h1, h2, h3⟩ := cellsBL E hE
  exact ⟨a, cap, LD.map (·.2), by rw [List.length_map, h1], ⟨a, cap, LD, rfl, by rw [← h2]; exact hc, rfl, h3, fun _ _ => trivial⟩⟩
theorem bl_max {w : World} {Q : Nat → Prop} {a : Option Addr} {n c : Nat} {l : List Bytes} (h : BL w Q (.slice a n c) l) : (l.length : Int) ≤ 9223372036854775807 := by
  obtain ⟨a', c', LD, e, hc, hl, h1, h2⟩ := h
  have hm := hc.max
  have hf := hc.fit
  have hlen : LD.length = l.length := by rw [← hl, List.length_map]
  have hfl : (LD.flatMap dD).length = LD.length * 1 := flat_length dD 1 (fun _ => rfl) LD
  rw [hfl] at hf
  unfold maxLen at hm
  omega
/-- lists of records -/
def bbV (x : Value × List Bytes) : List Value := [x.1]
theorem bbV_length (x : Value × List Bytes) : (bbV x).length = 1 := rfl
theorem lists_open {w : World} {v : Value} (h : RV Tryd.prog w 75 v) :
    ∃ (a : Option Addr) (cap : Nat) (L : List (Value × List Bytes)), v = .slice a L.length cap ∧ (∀ x ∈ L, ∃ a' c', x.1 = .slice a' x.2.length c' ∧ BL w AnyB x.1 x.2) ∧ CS w a cap 1 (L.flatMap bbV) ∧ L.length ≤ cap := by
  obtain ⟨a, cap, E, rfl, hE, hl, hc⟩ := h.slice Tryd.underlying75 1 (by kernel_rfl) (by decide)
  have key : ∀ E : List (List Value), (∀ x ∈ E, x.length = 1 ∧ RC Tryd.prog w 34 x) → ∃ L : List (Value × List Bytes), L.length = E.length ∧ E.flatten = L.flatMap bbV ∧ ∀ x ∈ L, ∃ a' c', x.1 = .slice a' x.2.length c' ∧ BL w AnyB x.1 x.2 := by
    intro E
    induction E with
    | nil => intro _; exact ⟨[], rfl, rfl, by simp⟩
    | cons x E ih =>
      intro h
      obtain ⟨L, h1, h2, h3⟩ := ih fun y hy => h y (List.mem_cons_of_mem _ hy)
      obtain ⟨a', c', l, e, hb⟩ := rcbl_open (h x (List.mem_cons_self ..)).2
      refine ⟨(.slice a' l.length c', l) :: L, by simp [h1], by rw [List.flatten_cons, h2, e, List.flatMap_cons]; rfl, fun q hq => ?_⟩
      rcases List.mem_cons.1 hq with rfl | hq
      · exact ⟨a', c', rfl, hb⟩
      · exact h3 q hq
  obtain ⟨L, h1, h2, h3⟩ := key E hE
  exact ⟨a, cap, L, by rw [h1], h3, by rw [← h2]; exact hc, by omega⟩
def u16V (k : Nat) : List Value := [.int .u16 (k : Int)]
theorem u16V_length (k : Nat) : (u16V k).length = 1 := rfl
theorem u16s_open {w : World} {v : Value} (h : RV Tryd.prog w 80 v) :
    ∃ (a : Option Addr) (cap : Nat) (l : List Nat), v = .slice a l.length cap ∧ (∀ r ∈ l, r < 65536) ∧ CS w a cap 1 (l.flatMap u16V) ∧ l.length ≤ cap := by
  obtain ⟨a, cap, E, rfl, hE, hl, hc⟩ := h.slice Tryd.underlying80 1 (by kernel_rfl) (by decide)
  have key : ∀ E : List (List Value), (∀ x ∈ E, x.length = 1 ∧ RC Tryd.prog w 81 x) → ∃ l : List Nat, l.length = E.length ∧ E.flatten = l.flatMap u16V ∧ ∀ r ∈ l, r < 65536 := by
    intro E
    induction E with
    | nil => intro _; exact ⟨[], rfl, rfl, by simp⟩
    | cons x E ih =>
      intro h
      obtain ⟨l, h1, h2, h3⟩ := ih fun y hy => h y (List.mem_cons_of_mem _ hy)
      obtain ⟨o, ho, hok⟩ := (h x (List.mem_cons_self ..)).2.int Tryd.underlying81
      have hb := bounds_u16 hok
      obtain ⟨k, rfl⟩ : ∃ k : Nat, o = (k : Int) := ⟨o.toNat, by omega⟩
      exact ⟨k :: l, by simp [h1], by rw [List.flatten_cons, h2, ho, List.flatMap_cons]; rfl, fun q hq => by
        rcases List.mem_cons.1 hq with rfl | hq
        · omega
        · exact h3 q hq⟩
  obtain ⟨l, h1, h2, h3⟩ := key E hE
  rw [h2] at hc
  rw [← h1] at hl ⊢
  exact ⟨a, cap, l, rfl, h3, hc, hl⟩
end Go.Proofs.YtoapibbbooongaaDoor
