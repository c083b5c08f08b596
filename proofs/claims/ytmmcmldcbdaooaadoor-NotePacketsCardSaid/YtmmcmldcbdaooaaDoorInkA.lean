/- The walks of layer 1: the pen. -/
import Derived.Test.YtmmcmldcbdaooaaDoorBytes
import Derived.Test.YtmmcmldcbdaooaaDoorInkMath
namespace Go.Proofs.YtmmcmldcbdaooaaDoor
open Go.RowKit Go.Quad _root_.Quad.Ink

theorem lit1 (w : World) (n : Nat) (h : n < 256) : BS (w.alloc (.cells #[.int .u8 (n : Int)] 5)) (some ⟨w.heap.size, 0, none⟩) 1 [UInt8.ofNat n] := by
  have := lit_bs w 5 [UInt8.ofNat n] (by simp [maxLen])
  rw [show ([UInt8.ofNat n].map u8v).toArray = #[.int .u8 (n : Int)] from by rw [List.map_cons, List.map_nil, u8v_of' n h]] at this
  exact this

/-- the document's bytes of a number -/
def RefRel (L : List UInt8) (w : World) (n v : Value) (wr : World) : Prop :=
  ∃ (m : Nat) (d : List UInt8), m < 18446744073709551616 ∧ n = .int .u64 (m : Int) ∧ d ++ numL m = L ∧ OB wr w.heap.size 5 v d ∧ Below w.heap.size w wr

theorem wrap_div (m : Nat) (h : m < 18446744073709551616) : IntKind.u64.wrap ((m : Int) / 128) = ((m / 128 : Nat) : Int) := by
  have e : ((m : Int) / 128) = ((m / 128 : Nat) : Int) := by omega
  rw [e]
  exact IntWalk.u64_in _ ⟨by omega, by omega⟩

theorem or128 (m : Nat) : bits .or .u8 ((m : Int) % 256) 128 = ((m % 128 + 128 : Nat) : Int) := by
  have h : ∀ x : Fin 256, bits .or .u8 ((x.val : Nat) : Int) 128 = ((x.val % 128 + 128 : Nat) : Int) := by decide +kernel
  have := h ⟨m % 256, Nat.mod_lt _ (by decide)⟩
  dsimp only at this
  rw [show ((m : Int) % 256) = ((m % 256 : Nat) : Int) from by omega, this]
  omega

theorem bound_of {d L : List UInt8} {m : Nat} (h : d ++ numL m = L) : d.length + 1 ≤ L.length := by
  rw [← h, List.length_append]; have := numL_pos m; omega

set_option maxHeartbeats 1000000 in
theorem refnum_calls (n : Nat) (hn : n < 18446744073709551616) (w : World) :
    Calls Tryd.prog 76 #[.int .u64 (n : Int)] w (RetB w.heap.size w (numL n)) := by
  have Hn := hid hn
  clear hn
  go_enter Tryd.func76, Tryd.ntmps76
  go_wp2_with fail
  go_loopw [0, 3] (fun n' v wr => RefRel (numL n) w n' v wr) (fun n' _ _ => (intOf n').toNat)
  case atStart => exact ⟨n, [], Hn.out, rfl, rfl, World.ownsRow_nil _ _ _ _, Below.refl _ _⟩
  case round =>
    obtain ⟨m, d, hm, rfl, hL, ho, hb⟩ := hrel
    have Hm := hid hm
    have HL := hid hL
    have Hb := hid hb
    have hbd := bound_of hL
    have hbn := numL_len10 Hn.out
    have Hbd := hid (show d.length + 1 ≤ 10 by omega)
    clear hL hm hb hbd hbn
    by_cases h128 : m < 128
    · have hsrc := lit1 wr m (by omega)
      have hown := ho.below (below_alloc wr (.cells #[.int .u8 (m : Int)] 5))
      have HbA := hid (Hb.out.trans ((below_alloc wr (.cells #[.int .u8 (m : Int)] 5)).mono Hb.out.size))
      have h1 : ¬ ((128 : Int) ≤ (m : Int)) := by omega
      have h2 : (m : Int) % 256 = (m : Int) := by omega
      clear ho
      go_wp2_with (at_builtin; refine wpList_append_b (.tmp 15) (.tmp 18) _ rfl rfl _ 5 info_u8 under_bytes _ _ hown rfl hsrc rfl (by have := Hbd.out; simp; omega) HbA.out.size ?_; intro v5 w1 hown1 hg1 hb1 _)
      go_ret
      refine ⟨_, rfl, ?_, HbA.out.trans hb1⟩
      rw [numL_small h128] at HL
      rw [← HL.out]
      exact hown1
    · have hsrc := lit1 wr (m % 128 + 128) (by omega)
      have hown := ho.below (below_alloc wr (.cells #[.int .u8 ((m : Int) % 128 + 128)] 5))
      have HbA := hid (Hb.out.trans ((below_alloc wr (.cells #[.int .u8 ((m : Int) % 128 + 128)] 5)).mono Hb.out.size))
      have h1 : (128 : Int) ≤ (m : Int) := by omega
      clear ho
      go_wp2_with (at_builtin; refine wpList_append_b (.tmp 6) (.tmp 11) _ rfl rfl _ 5 info_u8 under_bytes _ _ hown rfl hsrc rfl (by have := Hbd.out; simp; omega) HbA.out.size ?_; intro v5 w1 hown1 hg1 hb1 _)
      rw [wrap_div m Hm.out]
      have R1 : RefRel (numL n) w (.int .u64 ((m / 128 : Nat) : Int)) v5 w1 := ⟨m / 128, _, by have := Hm.out; omega, rfl, by rw [← HL.out, numL_big (n := m) (by omega), List.append_assoc]; rfl, hown1, HbA.out.trans hb1⟩
      refine ⟨?_, by simp only [intOf, Int.toNat_natCast]; omega⟩
      first | exact R1 | ((repeat apply Exists.intro); refine ⟨R1, ?_⟩; and_intros <;> rfl)

/-- a pen in memory: at g, its bytes at s -/
structure IsPen (w : World) (B g : Nat) (s : Value) (l : List UInt8) (bad : Bool) : Prop where
  own : Blk w g [s, .bool bad] 115
  row : OB w B 5 s l
  ge : B ≤ g
  ne : s.ownBlock ≠ some g

theorem IsPen.chg {S : List Nat} {w w' : World} {B g : Nat} {s : Value} {l : List UInt8} {bad : Bool} (h : IsPen w B g s l bad) (hc : Chg S w w') (h1 : g ∉ S) (h2 : ∀ k, s.ownBlock = some k → k ∉ S) : IsPen w' B g s l bad :=
  ⟨h.own.keep hc h1, h.row.chg hc h2, h.ge, h.ne⟩
theorem IsPen.below {w w' : World} {B g : Nat} {s : Value} {l : List UInt8} {bad : Bool} (h : IsPen w B g s l bad) (hb : Below w.heap.size w w') : IsPen w' B g s l bad :=
  h.chg (Chg.of_below [] hb) (by simp) (by simp)

/-- where what a pen does to memory is told -/
def penS (g : Nat) (s : Value) : List Nat := g :: s.ownBlock.toList

/-- new bytes are stored in the pen -/
theorem IsPen.put {w w2 w3 : World} {B g : Nat} {s v' : Value} {l l' : List UInt8} (h : IsPen w B g s l false) (h2 : Below w.heap.size w w2) (ho : OB w3 B 5 v' l') (hg : w2.grownBy w3 s.ownBlock)
    (hw : v'.ownBlock = s.ownBlock ∨ v'.ownBlock = some w2.heap.size) :
    w3.cell? ⟨g, 0, none⟩ = some s ∧ w3.frozen? ⟨g, 0, none⟩ = false ∧ IsPen (w3.setCell ⟨g, 0, none⟩ v') B g v' l' false ∧ Chg (penS g s) w (w3.setCell ⟨g, 0, none⟩ v') ∧
      (∀ k, v'.ownBlock = some k → s.ownBlock = some k ∨ w.heap.size ≤ k) := by
  have hglt := h.own.lt
  have hne : v'.ownBlock ≠ some g := by
    rcases hw with e | e
    · rw [e]; exact h.ne
    · rw [e]; intro hh; cases hh; have := h2.size; omega
  have hB : Blk w3 g [s, .bool false] 115 := (h.own.below h2).keep (chg_grown hg) (by
    intro hm
    rw [Option.mem_toList] at hm
    exact h.ne hm)
  have hc3 : Chg (penS g s) w w3 := (Chg.of_below _ h2).trans ((chg_grown hg).mono fun k hk => .inl (by unfold penS; exact List.mem_cons_of_mem _ hk))
  refine ⟨by rw [hB.cell]; rfl, hB.free 0, ⟨?_, ?_, h.ge, hne⟩, hc3.trans ((chg_setCell w3 g 0 v').mono fun k hk => .inl (by unfold penS; simp at hk; simp [hk])), ?_⟩
  · have := hB.set 0 v'
    simpa using this
  · exact ho.chg (chg_setCell w3 g 0 v') (fun k hk hm => hne (by simp at hm; rw [hk, hm]))
  · intro k hk
    rcases hw with e | e
    · exact .inl (by rw [← e]; exact hk)
    · rw [e] at hk; cases hk; exact .inr h2.size

def NumRel (B g : Nat) (s0 : Value) (w : World) (L : List UInt8) (n : Value) (wr : World) : Prop :=
  ∃ (m : Nat) (s : Value) (d : List UInt8), m < 18446744073709551616 ∧ n = .int .u64 (m : Int) ∧ d ++ numL m = L ∧ IsPen wr B g s d false ∧ Chg (penS g s0) w wr ∧ (∀ k, s.ownBlock = some k → s0.ownBlock = some k ∨ w.heap.size ≤ k)

theorem pen_step {w wr w' : World} {g : Nat} {s0 s v : Value} (h : Chg (penS g s0) w wr) (hs : ∀ k, s.ownBlock = some k → s0.ownBlock = some k ∨ w.heap.size ≤ k) (h' : Chg (penS g s) wr w')
    (hv : ∀ k, v.ownBlock = some k → s.ownBlock = some k ∨ wr.heap.size ≤ k) : Chg (penS g s0) w w' ∧ (∀ k, v.ownBlock = some k → s0.ownBlock = some k ∨ w.heap.size ≤ k) := by
  constructor
  · refine ⟨h'.os.trans h.os, h'.tape.trans h.tape, h'.output.trans h.output, Nat.le_trans h.size h'.size, fun k hk hn => ?_⟩
    rw [h'.block k (Nat.lt_of_lt_of_le hk h.size), h.block k hk hn]
    intro hm
    unfold penS at hm hn
    rcases List.mem_cons.1 hm with rfl | hm
    · exact hn (by simp)
    · rw [Option.mem_toList] at hm
      rcases hs k hm with e | e
      · exact hn (List.mem_cons_of_mem _ (by rw [Option.mem_toList]; exact e))
      · omega
  · intro k hk
    rcases hv k hk with e | e
    · exact hs k e
    · exact .inr (Nat.le_trans h.size e)

set_option maxHeartbeats 1000000 in
theorem pennum_calls (n : Nat) (hn : n < 18446744073709551616) (w : World) (B g : Nat) (s : Value) (l : List UInt8) (h : IsPen w B g s l false) (hl : l.length ≤ 1000000) :
    Calls Tryd.prog 37 #[.pointer (some ⟨g, 0, none⟩), .int .u64 (n : Int)] w fun e w' =>
      e = .returned (.tuple #[]) ∧ ∃ s', IsPen w' B g s' (l ++ numL n) false ∧ Chg (penS g s) w w' ∧ (∀ k, s'.ownBlock = some k → s.ownBlock = some k ∨ w.heap.size ≤ k) := by
  have c0 : w.cell? ⟨g, 0, none⟩ = some s := by rw [h.own.cell]; rfl
  have c1 : w.cell? ⟨g, 1, none⟩ = some (.bool false) := by rw [h.own.cell]; rfl
  have Hn := hid hn
  have H := hid h
  have Hl := hid hl
  clear hn h hl
  go_enter Tryd.func37, Tryd.ntmps37
  go_wp2_with fail
  go_loopw [1] (fun n' wr => NumRel B g s w (l ++ numL n) n' wr) (fun n' _ => (intOf n').toNat)
  case atStart => exact ⟨n, s, l, Hn.out, rfl, rfl, H.out, Chg.refl _ _, fun k hk => .inl hk⟩
  case round =>
    clear c0 c1
    obtain ⟨m, s1, d, hm, rfl, hL, hp, hc, hw⟩ := hrel
    have Hm := hid hm
    have HL := hid hL
    have P := hid hp
    have C := hid hc
    have W := hid hw
    obtain ⟨a1, cap1, rfl, _, _⟩ := hp.row.bs
    have c0 : wr.cell? ⟨g, 0, none⟩ = some (.slice a1 d.length cap1) := by rw [hp.own.cell]; rfl
    have hbn := numL_len10 Hn.out
    have hbd : d.length + 1 ≤ 1000010 := by
      have := bound_of hL
      rw [List.length_append] at this
      have := Hl.out
      omega
    have Hbd := hid hbd
    clear hL hm hp hc hw hbn hbd
    by_cases h128 : m < 128
    · have hsrc := lit1 wr m (by omega)
      have hown := P.out.row.below (below_alloc wr (.cells #[.int .u8 (m : Int)] 5))
      have h1 : ¬ ((128 : Int) ≤ (m : Int)) := by omega
      have h2 : (m : Int) % 256 = (m : Int) := by omega
      have hB := hid (show B ≤ (wr.alloc (.cells #[.int .u8 (m : Int)] 5)).heap.size from Nat.le_trans P.out.ge (Nat.le_of_lt (Nat.lt_of_lt_of_le P.out.own.lt (below_alloc wr (.cells #[.int .u8 (m : Int)] 5)).size)))
      go_wp2_with (at_builtin; refine wpList_append_at (.tmp 32) (.tmp 35) _ rfl rfl _ 5 info_u8 under_bytes _ _ hown rfl hsrc rfl (by have := Hbd.out; simp; omega) hB.out ?_; intro v5 w1 hown1 hg1 hw1; obtain ⟨av, cv, e5, _, _⟩ := hown1.bs; rw [List.length_append, List.length_singleton] at e5; subst e5; obtain ⟨c3, f3, P3, C3, W3⟩ := P.out.put (below_alloc wr (.cells #[.int .u8 (m : Int)] 5)) hown1 hg1 hw1; replace P3 := hid P3; replace C3 := hid C3; replace W3 := hid W3; clear hown1 hg1 hw1 hown)
      go_end0
      obtain ⟨C4, W4⟩ := pen_step C.out W.out C3.out W3.out
      refine ⟨rfl, _, ?_, C4, W4⟩
      rw [numL_small h128] at HL
      rw [← HL.out]
      exact P3.out
    · have hsrc : BS (wr.alloc (.cells #[.int .u8 (bits .or .u8 ((m : Int) % 256) 128)] 5)) (some ⟨wr.heap.size, 0, none⟩) 1 [UInt8.ofNat (m % 128 + 128)] := by rw [or128]; exact lit1 wr (m % 128 + 128) (by omega)
      have hown := P.out.row.below (below_alloc wr (.cells #[.int .u8 (bits .or .u8 ((m : Int) % 256) 128)] 5))
      have h1 : (128 : Int) ≤ (m : Int) := by omega
      have hB := hid (show B ≤ (wr.alloc (.cells #[.int .u8 (bits .or .u8 ((m : Int) % 256) 128)] 5)).heap.size from Nat.le_trans P.out.ge (Nat.le_of_lt (Nat.lt_of_lt_of_le P.out.own.lt (below_alloc wr (.cells #[.int .u8 (bits .or .u8 ((m : Int) % 256) 128)] 5)).size)))
      go_wp2_with (at_builtin; refine wpList_append_at (.tmp 20) (.tmp 24) _ rfl rfl _ 5 info_u8 under_bytes _ _ hown rfl hsrc rfl (by have := Hbd.out; simp; omega) hB.out ?_; intro v5 w1 hown1 hg1 hw1; obtain ⟨av, cv, e5, _, _⟩ := hown1.bs; rw [List.length_append, List.length_singleton] at e5; subst e5; obtain ⟨c3, f3, P3, C3, W3⟩ := P.out.put (below_alloc wr (.cells #[.int .u8 (bits .or .u8 ((m : Int) % 256) 128)] 5)) hown1 hg1 hw1; replace P3 := hid P3; replace C3 := hid C3; replace W3 := hid W3; clear hown1 hg1 hw1 hown)
      obtain ⟨C4, W4⟩ := pen_step C.out W.out C3.out W3.out
      have R1 : NumRel B g s w (l ++ numL n) (.int .u64 ((m : Int) / 128)) (w1.setCell ⟨g, 0, none⟩ (.slice av (d.length + 1) cv)) :=
        ⟨m / 128, _, _, by have := Hm.out; omega, by go_num, (List.append_assoc _ _ _).trans (by rw [← HL.out, numL_big (n := m) (by omega)]; rfl), P3.out, C4, W4⟩
      refine ⟨?_, by simp [intOf]; omega⟩
      first | exact R1 | ((repeat apply Exists.intro); refine ⟨R1, ?_⟩; and_intros <;> rfl)

/-- a new pen -/
theorem new_calls (w : World) :
    Calls Tryd.prog 69 #[] w fun e w' => ∃ g, e = .returned (.pointer (some ⟨g, 0, none⟩)) ∧ IsPen w' w.heap.size g (.slice none 0 0) [] false ∧ g = w.heap.size ∧ Below w.heap.size w w' := by
  go_enter Tryd.func69, Tryd.ntmps69
  go_wp2_with fail
  go_ret
  refine ⟨w.heap.size, rfl, ⟨blk_alloc w [.slice none 0 0, .bool false] 115, World.ownsRow_nil _ _ _ _, Nat.le_refl _, by simp [Value.ownBlock]⟩, rfl, below_alloc w _⟩

set_option maxHeartbeats 400000 in
theorem bytes_calls (w : World) (B g : Nat) (s : Value) (l : List UInt8) (h : IsPen w B g s l false) (hl : l.length ≤ 1000000) :
    Calls Tryd.prog 71 #[.pointer (some ⟨g, 0, none⟩)] w (RetB w.heap.size w l) := by
  have c0 : w.cell? ⟨g, 0, none⟩ = some s := by rw [h.own.cell]; rfl
  have c1 : w.cell? ⟨g, 1, none⟩ = some (.bool false) := by rw [h.own.cell]; rfl
  obtain ⟨a, cap, rfl, hs, _⟩ := h.row.bs
  have Hs := hid hs
  clear h hs
  go_enter Tryd.func71, Tryd.ntmps71
  go_wp2_with fail
  refine (clone_calls _ _ _ _ Hs.out (by omega)).mono ?_
  rintro e w' ⟨v, rfl, ho, hb⟩
  go_wp2_with fail
  go_ret
  exact ⟨_, rfl, ho, hb⟩
end Go.Proofs.YtmmcmldcbdaooaaDoor
