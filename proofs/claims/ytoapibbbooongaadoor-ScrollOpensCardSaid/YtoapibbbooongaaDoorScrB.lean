/- The walks of layer 7: the parts of a batch; how many; has a slab room. -/
import Derived.Test.YtoapibbbooongaaDoorScrA
namespace Go.Proofs.YtoapibbbooongaaDoor
open Go.RowKit Go.Quad _root_.Quad _root_.Quad.Slab _root_.Quad.Ink

def partsP (p : Bytes) : List Bytes := (List.range (npart p.length)).map (partP p)
theorem partsP_len (p : Bytes) : (partsP p).length = npart p.length := by unfold partsP; rw [List.length_map, List.length_range]
theorem partsP_get {p : Bytes} {i : Nat} (h : i < npart p.length) : (partsP p).getD i [] = partP p i := by
  unfold partsP
  rw [List.getD_eq_getElem?_getD, List.getElem?_map, List.getElem?_range h]
  rfl
theorem npart_of {n : Nat} (h : 0 < n) : (n + 103) / 104 = npart n := by unfold npart; omega
theorem part_bs {w : World} {b off c : Nat} {p : Bytes} (h : BS w (some ⟨b, off, none⟩) c p) (i : Nat) (_hi : i < npart p.length) (h0 : 0 < p.length) : BS w (some ⟨b, off + 104 * i, none⟩) (min 104 (p.length - 104 * i)) (partP p i) := by
  obtain ⟨b', off', e, hc⟩ := h.at h0
  cases e
  refine BS.of_row (partP_len p i) (Nat.le_refl _) (by unfold maxLen; omega) fun j hj => ?_
  have hjl : j < 104 ∧ 104 * i + j < p.length := by rw [partP_len] at hj; omega
  have e1 : (partP p i)[j] = p[104 * i + j] := by
    simp only [partP, List.getElem_take, List.getElem_drop]
  rw [e1, Nat.add_assoc]
  exact hc _ hjl.2
def PartsTo (w : World) (Q : Nat → Prop) (p : Bytes) (e : Ending) (w' : World) : Prop := ∃ v, e = .returned v ∧ BL w' (fun k => Q k ∨ (w.heap.size ≤ k ∧ k < w'.heap.size)) v (partsP p) ∧ Below w.heap.size w w'
set_option maxRecDepth 100000 in
set_option maxHeartbeats 1000000 in
theorem parts_calls (w : World) (Q : Nat → Prop) (a : Option Addr) (n c : Nat) (p : Bytes) (h : BS w a c p) (hn : p.length = n) (hl : n ≤ 1000000) (hq : InQ Q a) :
    Calls Tryd.prog 80 #[.slice a n c] w (PartsTo w Q p) := by
  have H := hid h
  have HN := hid hn
  have hc := h.fit'
  have hl' : (n : Int) ≤ 1000000 := by omega
  by_cases h0 : n = 0
  · subst h0
    obtain rfl : p = [] := List.eq_nil_of_length_eq_zero HN.out
    clear h hn hc hl
    go_enter Tryd.func80, Tryd.ntmps80
    go_wp2_with fail
    go_ret
    have hb := below_alloc w (.cells #[.slice none 0 0] 33)
    refine ⟨_, rfl, ⟨_, 1, [(.slice none 0 0, [])], rfl, cs_lit w [.slice none 0 0] 33 1 1 rfl (by simp [maxLen]), rfl, fun x hx => ?_, fun x hx => ?_⟩, hb⟩
    · rw [List.mem_singleton] at hx
      subst hx
      exact ⟨none, 0, rfl, BS.nil _, InQ.none _⟩
    · cases hx
      exact .inr ⟨Nat.le_refl _, by simp⟩
  · have h0' : ¬ ((n : Int) = 0) := by omega
    have hpos : 0 < p.length := by omega
    obtain ⟨b, off, rfl, _⟩ := h.at hpos
    have HQ := hid (hq _ rfl)
    have HC := hid hc
    have HL := hid hl
    have HP := hid hpos
    have KC := hid fun (W : World) (hW : W = (w.alloc (.cells #[.slice (some ⟨b, off, none⟩) n c] 33)).alloc (.cells #[.int .i64 104] 3)) => collect_calls b off n c (by omega) (by omega) w W hW
    clear h hn hc hq hpos hl
    go_enter Tryd.func80, Tryd.ntmps80
    go_wp2_with (first
      | (go_at_call 102; go_must (refine (chunk_calls (some ⟨b, off, none⟩) n c w).mono ?_; rintro e w1 ⟨rfl, rfl⟩; dsimp only))
      | (go_at_call 101; go_must (refine (KC.out _ rfl).mono ?_; rintro e w2 ⟨v, rfl, hrow, hb⟩; have R := hid hrow; have B2 := hid hb; obtain ⟨a2, c2, rfl, _, _, _⟩ := ownsRow_cs hrow; clear hrow hb; dsimp only)))
    go_ret
    have hb1 : Below w.heap.size w ((w.alloc (.cells #[.slice (some ⟨b, off, none⟩) n c] 33)).alloc (.cells #[.int .i64 104] 3)) := ((Below.refl _ w).alloc (Nat.le_refl _) _).alloc (by simp) _
    have hb2 : Below w.heap.size w w2 := hb1.trans (B2.out.mono hb1.size)
    obtain ⟨a2', c2', e, _, hcs, hof⟩ := ownsRow_cs R.out
    cases e
    have hK : (n + 103) / 104 = npart p.length := by rw [HN.out]; exact npart_of (by have := HP.out; have := HN.out; omega)
    refine ⟨.slice a2 ((n + 103) / 104) c2, rfl, ⟨a2, c2, (List.range (npart p.length)).map (fun i => (encS (cutP b off n i), partP p i)), by rw [partsP_len, hK], ?_, ?_, fun x hx => ?_, fun x hx => ?_⟩, hb2⟩
    · have e : (((List.range (npart p.length)).map (fun i => (encS (cutP b off n i), partP p i))).flatMap dD) = ((List.range ((n + 103) / 104)).map (cutP b off n)).map encS := by
        rw [hK, List.flatMap_map, List.map_map]
        exact (List.map_eq_flatMap ..).symm
      rw [e]
      exact hcs
    · unfold partsP
      rw [List.map_map]
      rfl
    · obtain ⟨i, hi, rfl⟩ := List.mem_map.1 hx
      rw [List.mem_range] at hi
      have := part_bs (H.out.below hb2) i hi HP.out
      rw [HN.out] at this
      refine ⟨_, _, ?_, this, fun y hy => by cases hy; exact .inl HQ.out⟩
      rw [partP_len, HN.out]
      rfl
    · exact .inr ⟨Nat.le_trans hb1.size (hof x hx).2.2.1, (hof x hx).2.2.2⟩
end Go.Proofs.YtoapibbbooongaaDoor
