/- The walk of a slab's read. -/
import Derived.Test.YtoapibbbooongaaDoorSlabC
namespace Go.Proofs.YtoapibbbooongaaDoor
open Go.RowKit Go.Quad _root_.Quad.Slab

theorem flat_lengthM {α : Type} (f : α → List Value) (sz : Nat) : ∀ (l : List α), (∀ x ∈ l, (f x).length = sz) → (l.flatMap f).length = l.length * sz
  | [], _ => by simp
  | x :: l, h => by
    rw [List.flatMap_cons, List.length_append, flat_lengthM f sz l fun y hy => h y (List.mem_cons_of_mem _ hy), h x (List.mem_cons_self ..), List.length_cons, Nat.add_mul]; omega

theorem flat_getM {α : Type} (f : α → List Value) (sz : Nat) : ∀ (l : List α), (∀ x ∈ l, (f x).length = sz) → ∀ (i j : Nat) (x : α), l[i]? = some x → j < sz → (l.flatMap f)[i * sz + j]? = (f x)[j]?
  | [], _, i, j, x, h, _ => by simp at h
  | y :: l, hf, 0, j, x, h, hj => by
    simp only [List.getElem?_cons_zero, Option.some.injEq] at h
    subst h
    rw [List.flatMap_cons, Nat.zero_mul, Nat.zero_add, List.getElem?_append_left (by rw [hf y (List.mem_cons_self ..)]; exact hj)]
  | y :: l, hf, i + 1, j, x, h, hj => by
    have hy := hf y (List.mem_cons_self ..)
    rw [List.flatMap_cons, List.getElem?_append_right (by rw [hy, Nat.add_mul]; omega), hy]
    rw [show (i + 1) * sz + j - sz = i * sz + j from by rw [Nat.add_mul]; omega]
    exact flat_getM f sz l (fun z hz => hf z (List.mem_cons_of_mem _ hz)) i j x (by simpa using h) hj

theorem wrV_all {s : Sl} (h : Ok s) : ∀ x ∈ s.way, (wrV x).length = 129 := fun x hx => wrV_length x (h.wsec x hx).1
theorem bV_all {s : Sl} (h : Ok s) : ∀ x ∈ s.done, (bV x).length = 128 := fun x hx => by rw [bV_length]; exact h.sec x hx

/-- the cells of what is under way -/
theorem IsSlab.way_cells {w : World} {B g d : Nat} {wv : Value} {s : Sl} (h : IsSlab w B g d wv s) (k : Nat) (hk : k < s.way.length) :
    ∃ b cap, wv = .slice (some ⟨b, 0, none⟩) s.way.length cap ∧ w.cell? ⟨b, k * 129, none⟩ = some (.int .i64 (s.way[k].1 : Int)) ∧ BS w (some ⟨b, k * 129 + 1, none⟩) 128 s.way[k].2 := by
  obtain ⟨a, cap, e, hle, hcs, _⟩ := ownsRow_cs h.way
  have hall := wrV_all h.ok
  have hlen := flat_lengthM wrV 129 s.way hall
  obtain ⟨b, off, ea, hc⟩ := hcs.at (by omega)
  have hoff : off = 0 := by
    have := (ownsRow_cs h.way)
    obtain ⟨a', cap', e', _, _, hx⟩ := this
    rw [e] at e'
    simp only [Value.slice.injEq] at e'
    rw [← e'.1] at hx
    exact (hx _ ea).1
  subst hoff
  subst ea
  have hget := fun j => flat_getM wrV 129 s.way hall k j _ (List.getElem?_eq_getElem hk)
  refine ⟨b, cap, e, ?_, ?_⟩
  · have := hc (k * 129 + 0) (.int .i64 (s.way[k].1 : Int)) (by rw [hget 0 (by decide)]; rfl)
    simpa using this
  · have hl := (h.ok.wsec _ (List.getElem_mem hk)).1
    refine BS.of_row hl (Nat.le_refl _) (by simp [maxLen]) fun i hi => ?_
    have := hc (k * 129 + (i + 1)) (.int .u8 ((s.way[k].2[i] : UInt8).toNat : Int)) (by
      rw [hget (i + 1) (by omega)]
      simp [wrV, u8v, List.getElem?_eq_getElem hi])
    rw [show k * 129 + 1 + i = 0 + (k * 129 + (i + 1)) from by omega]
    exact this

/-- a sector's bytes -/
theorem IsSlab.sec_cells {w : World} {B g d : Nat} {wv : Value} {s : Sl} (h : IsSlab w B g d wv s) (k : Nat) (hk : k < s.done.length) : BS w (some ⟨d, k * 128, none⟩) 128 s.done[k] := by
  have hl := h.ok.sec _ (List.getElem_mem hk)
  refine BS.of_row hl (Nat.le_refl _) (by simp [maxLen]) fun i hi => ?_
  refine h.don.get (k * 128 + i) ?_
  rw [flat_getM bV 128 s.done (bV_all h.ok) k i _ (List.getElem?_eq_getElem hk) (by omega)]
  simp [bV, u8v, List.getElem?_eq_getElem hi]

theorem clone_n (a : Option Addr) (n cap : Nat) (l : List UInt8) (w : World) (h : BS w a cap l) (hl : l.length = n) (hn : n ≤ 140737488355328) : Calls Tryd.prog 75 #[.slice a n cap] w (RetB w.heap.size w l) := by
  subst hl; exact clone_calls a cap l w h hn

def ReadTo (w : World) (p : List UInt8) (e : Ending) (w' : World) : Prop := ∃ v, e = .returned (.tuple #[v, .int .i64 0]) ∧ OB w' w.heap.size 5 v p ∧ Below w.heap.size w w'

def RdRel (s : Sl) (i : Nat) (kv : Value) : Prop := ∃ j : Int, kv = .int .i64 j ∧ -1 ≤ j ∧ j < (s.way.length : Int) ∧ ∀ m (hm : m < s.way.length), j < (m : Int) → s.way[m].1 ≠ i

theorem readno_calls (w : World) (B g d : Nat) (wv : Value) (s : Sl) (i : Int) (n : Nat) (h : IsSlab w B g d wv s) (hi : -9223372036854775808 ≤ i ∧ i ≤ 9223372036854775807) (h0 : hasL s i 0 = n) (hn : n ≠ 0) :
    Calls Tryd.prog 82 #[.pointer (some ⟨g, 0, none⟩), .int .i64 i] w fun e w' => e = .returned (.tuple #[.slice none 0 0, .int .i64 (n : Int)]) ∧ w = w' := by
  have C := has_calls w B g d wv s i 0 h hi (by omega)
  rw [h0] at C
  have Cx := hid C
  have hb : ((n : Int) == 0) = false := by rw [beq_eq_false_iff_ne]; omega
  have hb' : ((n : Int) != 0) = true := by rw [bne_iff_ne]; omega
  clear h C h0 hn
  go_enter Tryd.func82, Tryd.ntmps82
  go_wp2_with fail
  refine Cx.out.mono ?_
  rintro e w' ⟨rfl, rfl⟩
  go_wp2_with fail
  go_ret2
  exact ⟨rfl, rfl⟩

set_option maxHeartbeats 1000000 in
theorem read_calls (w : World) (B g d : Nat) (wv : Value) (s : Sl) (i : Nat) (h : IsSlab w B g d wv s) (h0 : hasL s i 0 = 0) :
    Calls Tryd.prog 82 #[.pointer (some ⟨g, 0, none⟩), .int .i64 (i : Int)] w (ReadTo w (seenL s i)) := by
  have hin := hasL_in h0
  have hsm := h.ok.small
  have hwsm := h.ok.wsmall
  have C := has_calls w B g d wv s i 0 h (by omega) (by omega)
  rw [h0] at C
  have Cx := hid C
  have H := hid h
  obtain ⟨wa, wc, e, hwle, _⟩ := ownsRow_cs h.way
  have c1 := h.own.get 1 rfl
  have c0 := h.own.get 0 rfl
  rw [e] at c1
  have E := hid e
  have hlen : (s.way.length : Int) ≤ 1000000 := by omega
  have hi2 : (i : Int) < (s.done.length : Int) := by omega
  clear h C h0 e
  go_enter Tryd.func82, Tryd.ntmps82
  go_wp2_with fail
  refine Cx.out.mono ?_
  rintro e w' ⟨rfl, rfl⟩
  go_wp2_with fail
  go_loop [7] (fun kv => RdRel s i kv) (fun kv => (intOf kv + 1).toNat)
  case atStart => exact ⟨_, rfl, by omega, by omega, fun m hm h => by omega⟩
  case round =>
    obtain ⟨j, rfl, hj1, hj2, hj3⟩ := hrel
    have Hj := hid hj3
    clear hj3
    by_cases hneg : j < 0
    · have sn := hid (seen_none (s := s) (i := i) (by omega) (fun m hm => Hj.out m hm (by omega)))
      have hneg' : ¬ (0 ≤ j) := by omega
      have S := H.out.sec_cells i (by omega)
      rw [← sn.out] at S
      have hsl : (seenL s i).length = 128 := by rw [sn.out]; exact H.out.ok.sec _ (List.getElem_mem _)
      have Hsl := hid hsl
      have S1 := hid S
      clear S hsl
      go_wp2_with fail
      refine (clone_n _ 128 _ _ _ S1.out Hsl.out (by omega)).mono ?_
      rintro e w1 ⟨v, rfl, hv, hb⟩
      have F := hid (And.intro hv hb)
      clear hv hb
      go_wp2_with fail
      go_ret2
      exact ⟨_, rfl, F.out.1, F.out.2⟩
    · obtain ⟨k, rfl⟩ : ∃ k : Nat, j = k := ⟨j.toNat, by omega⟩
      have hk : k < s.way.length := by omega
      obtain ⟨b, cap, e2, hc1, hbs⟩ := H.out.way_cells k hk
      have e3 := E.out.symm.trans e2
      simp only [Value.slice.injEq] at e3
      obtain ⟨rfl, _, rfl⟩ := e3
      have hbl := (H.out.ok.wsec _ (List.getElem_mem hk)).1
      have Hbs := hid (And.intro hbs hbl)
      have Hk := hid hk
      clear hbs e2 hbl
      by_cases he : s.way[k].1 = i
      · have sn := hid (seen_found (s := s) (i := i) hk he (fun m hm h => Hj.out m hm (by omega)))
        rw [he] at hc1
        clear he
        go_wp2_with fail
        refine (clone_n _ 128 _ _ _ Hbs.out.1 Hbs.out.2 (by omega)).mono ?_
        rintro e w1 ⟨v, rfl, hv, hb⟩
        have F := hid (And.intro hv hb)
        clear hv hb
        go_wp2_with fail
        go_ret2
        exact ⟨_, rfl, by rw [sn.out]; exact F.out.1, F.out.2⟩
      · have hne : ((s.way[k].1 : Int) == (i : Int)) = false := by rw [beq_eq_false_iff_ne]; omega
        have He := hid he
        clear he
        go_wp2_with fail
        have R : RdRel s i (.int .i64 ((k : Int) - 1)) := ⟨_, rfl, by omega, by omega, fun m hm h => by
          rcases Nat.lt_or_ge k m with h1 | h1
          · exact Hj.out m hm (by omega)
          · obtain rfl : m = k := by omega
            exact He.out⟩
        refine ⟨?_, by simp [intOf]⟩
        first | exact R | ((repeat apply Exists.intro); refine ⟨R, ?_⟩; and_intros <;> rfl)
end Go.Proofs.YtoapibbbooongaaDoor
