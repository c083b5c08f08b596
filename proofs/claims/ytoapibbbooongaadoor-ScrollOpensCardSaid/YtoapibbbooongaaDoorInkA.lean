/- The walks of layer 1: the pen. (Several texts in one: InkA, InkB, InkC, InkW.) -/
import Derived.Test.YtoapibbbooongaaDoorLib
import Derived.Lib.SlBytesConst

/- The walks of layer 1: the pen. -/
namespace Go.Proofs.YtoapibbbooongaaDoor
open Go.RowKit Go.Quad _root_.Quad.Ink

theorem lit1 (w : World) (n : Nat) (h : n < 256) : BS (w.alloc (.cells #[.int .u8 (n : Int)] 5)) (some ⟨w.heap.size, 0, none⟩) 1 [UInt8.ofNat n] := by
  have := lit_bs w 5 [UInt8.ofNat n] (by simp [maxLen])
  rw [show ([UInt8.ofNat n].map u8v).toArray = #[.int .u8 (n : Int)] from by rw [List.map_cons, List.map_nil, u8v_of' n h]] at this
  exact this

/-- the document's bytes of a number -/
def RefRel (L : List UInt8) (w : World) (n v : Value) (wr : World) : Prop :=
  ∃ (m : Nat) (d : List UInt8), m < 18446744073709551616 ∧ n = .int .u64 (m : Int) ∧ d ++ numL m = L ∧ OB wr w.heap.size 5 v d ∧ Below w.heap.size w wr

theorem wrap_div (m : Nat) (h : m < 18446744073709551616) : IntKind.u64.wrap ((m : Int) / 128) = ((m / 128 : Nat) : Int) := by
  have e : ((m : Int) / 128) = ((m / 128 : Nat) : Int) := by omega
  rw [e]
  exact IntWalk.u64_in _ ⟨by omega, by omega⟩

theorem or128 (m : Nat) : bits .or .u8 ((m : Int) % 256) 128 = ((m % 128 + 128 : Nat) : Int) := by
  have h : ∀ x : Fin 256, bits .or .u8 ((x.val : Nat) : Int) 128 = ((x.val % 128 + 128 : Nat) : Int) := by decide +kernel
  have := h ⟨m % 256, Nat.mod_lt _ (by decide)⟩
  dsimp only at this
  rw [show ((m : Int) % 256) = ((m % 256 : Nat) : Int) from by omega, this]
  omega

theorem bound_of {d L : List UInt8} {m : Nat} (h : d ++ numL m = L) : d.length + 1 ≤ L.length := by
  rw [← h, List.length_append]; have := numL_pos m; omega

set_option maxHeartbeats 1000000 in
theorem refnum_calls (n : Nat) (hn : n < 18446744073709551616) (w : World) :
    Calls Tryd.prog 156 #[.int .u64 (n : Int)] w (RetB w.heap.size w (numL n)) := by
  have Hn := hid hn
  clear hn
  go_enter Tryd.func156, Tryd.ntmps156
  go_wp2_with fail
  go_loopw [0, 3] (fun n' v wr => RefRel (numL n) w n' v wr) (fun n' _ _ => (intOf n').toNat)
  case atStart => exact ⟨n, [], Hn.out, rfl, rfl, World.ownsRow_nil _ _ _ _, Below.refl _ _⟩
  case round =>
    obtain ⟨m, d, hm, rfl, hL, ho, hb⟩ := hrel
    have Hm := hid hm
    have HL := hid hL
    have Hb := hid hb
    have hbd := bound_of hL
    have hbn := numL_len10 Hn.out
    have Hbd := hid (show d.length + 1 ≤ 10 by omega)
    clear hL hm hb hbd hbn
    by_cases h128 : m < 128
    · have hsrc := lit1 wr m (by omega)
      have hown := ho.below (below_alloc wr (.cells #[.int .u8 (m : Int)] 5))
      have HbA := hid (Hb.out.trans ((below_alloc wr (.cells #[.int .u8 (m : Int)] 5)).mono Hb.out.size))
      have h1 : ¬ ((128 : Int) ≤ (m : Int)) := by omega
      have h2 : (m : Int) % 256 = (m : Int) := by omega
      clear ho
      go_wp2_with (at_builtin; refine wpList_append_b (.tmp 15) (.tmp 18) _ rfl rfl _ 5 info_u8 under_bytes _ _ hown rfl hsrc rfl (by have := Hbd.out; simp; omega) HbA.out.size ?_; intro v5 w1 hown1 hg1 hb1 _)
      go_ret
      refine ⟨_, rfl, ?_, HbA.out.trans hb1⟩
      rw [numL_small h128] at HL
      rw [← HL.out]
      exact hown1
    · have hsrc := lit1 wr (m % 128 + 128) (by omega)
      have hown := ho.below (below_alloc wr (.cells #[.int .u8 ((m : Int) % 128 + 128)] 5))
      have HbA := hid (Hb.out.trans ((below_alloc wr (.cells #[.int .u8 ((m : Int) % 128 + 128)] 5)).mono Hb.out.size))
      have h1 : (128 : Int) ≤ (m : Int) := by omega
      clear ho
      go_wp2_with (at_builtin; refine wpList_append_b (.tmp 6) (.tmp 11) _ rfl rfl _ 5 info_u8 under_bytes _ _ hown rfl hsrc rfl (by have := Hbd.out; simp; omega) HbA.out.size ?_; intro v5 w1 hown1 hg1 hb1 _)
      rw [wrap_div m Hm.out]
      have R1 : RefRel (numL n) w (.int .u64 ((m / 128 : Nat) : Int)) v5 w1 := ⟨m / 128, _, by have := Hm.out; omega, rfl, by rw [← HL.out, numL_big (n := m) (by omega), List.append_assoc]; rfl, hown1, HbA.out.trans hb1⟩
      refine ⟨?_, by simp only [intOf, Int.toNat_natCast]; omega⟩
      first | exact R1 | ((repeat apply Exists.intro); refine ⟨R1, ?_⟩; and_intros <;> rfl)

/-- a pen in memory: at g, its bytes at s -/
structure IsPen (w : World) (B g : Nat) (s : Value) (l : List UInt8) (bad : Bool) : Prop where
  own : Blk w g [s, .bool bad] 205
  row : OB w B 5 s l
  ge : B ≤ g
  ne : s.ownBlock ≠ some g

theorem IsPen.chg {S : List Nat} {w w' : World} {B g : Nat} {s : Value} {l : List UInt8} {bad : Bool} (h : IsPen w B g s l bad) (hc : Chg S w w') (h1 : g ∉ S) (h2 : ∀ k, s.ownBlock = some k → k ∉ S) : IsPen w' B g s l bad :=
  ⟨h.own.keep hc h1, h.row.chg hc h2, h.ge, h.ne⟩
theorem IsPen.below {w w' : World} {B g : Nat} {s : Value} {l : List UInt8} {bad : Bool} (h : IsPen w B g s l bad) (hb : Below w.heap.size w w') : IsPen w' B g s l bad :=
  h.chg (Chg.of_below [] hb) (by simp) (by simp)

/-- where what a pen does to memory is told -/
def penS (g : Nat) (s : Value) : List Nat := g :: s.ownBlock.toList

/-- new bytes are stored in the pen -/
theorem IsPen.put {w w2 w3 : World} {B g : Nat} {s v' : Value} {l l' : List UInt8} (h : IsPen w B g s l false) (h2 : Below w.heap.size w w2) (ho : OB w3 B 5 v' l') (hg : w2.grownBy w3 s.ownBlock)
    (hw : v'.ownBlock = s.ownBlock ∨ v'.ownBlock = some w2.heap.size) :
    w3.cell? ⟨g, 0, none⟩ = some s ∧ w3.frozen? ⟨g, 0, none⟩ = false ∧ IsPen (w3.setCell ⟨g, 0, none⟩ v') B g v' l' false ∧ Chg (penS g s) w (w3.setCell ⟨g, 0, none⟩ v') ∧
      (∀ k, v'.ownBlock = some k → s.ownBlock = some k ∨ w.heap.size ≤ k) := by
  have hglt := h.own.lt
  have hne : v'.ownBlock ≠ some g := by
    rcases hw with e | e
    · rw [e]; exact h.ne
    · rw [e]; intro hh; cases hh; have := h2.size; omega
  have hB : Blk w3 g [s, .bool false] 205 := (h.own.below h2).keep (chg_grown hg) (by
    intro hm
    rw [Option.mem_toList] at hm
    exact h.ne hm)
  have hc3 : Chg (penS g s) w w3 := (Chg.of_below _ h2).trans ((chg_grown hg).mono fun k hk => .inl (by unfold penS; exact List.mem_cons_of_mem _ hk))
  refine ⟨by rw [hB.cell]; rfl, hB.free 0, ⟨?_, ?_, h.ge, hne⟩, hc3.trans ((chg_setCell w3 g 0 v').mono fun k hk => .inl (by unfold penS; simp at hk; simp [hk])), ?_⟩
  · have := hB.set 0 v'
    simpa using this
  · exact ho.chg (chg_setCell w3 g 0 v') (fun k hk hm => hne (by simp at hm; rw [hk, hm]))
  · intro k hk
    rcases hw with e | e
    · exact .inl (by rw [← e]; exact hk)
    · rw [e] at hk; cases hk; exact .inr h2.size

def NumRel (B g : Nat) (s0 : Value) (w : World) (L : List UInt8) (n : Value) (wr : World) : Prop :=
  ∃ (m : Nat) (s : Value) (d : List UInt8), m < 18446744073709551616 ∧ n = .int .u64 (m : Int) ∧ d ++ numL m = L ∧ IsPen wr B g s d false ∧ Chg (penS g s0) w wr ∧ (∀ k, s.ownBlock = some k → s0.ownBlock = some k ∨ w.heap.size ≤ k)

theorem pen_step {w wr w' : World} {g : Nat} {s0 s v : Value} (h : Chg (penS g s0) w wr) (hs : ∀ k, s.ownBlock = some k → s0.ownBlock = some k ∨ w.heap.size ≤ k) (h' : Chg (penS g s) wr w')
    (hv : ∀ k, v.ownBlock = some k → s.ownBlock = some k ∨ wr.heap.size ≤ k) : Chg (penS g s0) w w' ∧ (∀ k, v.ownBlock = some k → s0.ownBlock = some k ∨ w.heap.size ≤ k) := by
  constructor
  · refine ⟨h'.os.trans h.os, h'.tape.trans h.tape, h'.output.trans h.output, Nat.le_trans h.size h'.size, fun k hk hn => ?_⟩
    rw [h'.block k (Nat.lt_of_lt_of_le hk h.size), h.block k hk hn]
    intro hm
    unfold penS at hm hn
    rcases List.mem_cons.1 hm with rfl | hm
    · exact hn (by simp)
    · rw [Option.mem_toList] at hm
      rcases hs k hm with e | e
      · exact hn (List.mem_cons_of_mem _ (by rw [Option.mem_toList]; exact e))
      · omega
  · intro k hk
    rcases hv k hk with e | e
    · exact hs k e
    · exact .inr (Nat.le_trans h.size e)

set_option maxHeartbeats 1000000 in
theorem pennum_calls (n : Nat) (hn : n < 18446744073709551616) (w : World) (B g : Nat) (s : Value) (l : List UInt8) (h : IsPen w B g s l false) (hl : l.length ≤ 1000000) :
    Calls Tryd.prog 121 #[.pointer (some ⟨g, 0, none⟩), .int .u64 (n : Int)] w fun e w' =>
      e = .returned (.tuple #[]) ∧ ∃ s', IsPen w' B g s' (l ++ numL n) false ∧ Chg (penS g s) w w' ∧ (∀ k, s'.ownBlock = some k → s.ownBlock = some k ∨ w.heap.size ≤ k) := by
  have c0 : w.cell? ⟨g, 0, none⟩ = some s := by rw [h.own.cell]; rfl
  have c1 : w.cell? ⟨g, 1, none⟩ = some (.bool false) := by rw [h.own.cell]; rfl
  have Hn := hid hn
  have H := hid h
  have Hl := hid hl
  clear hn h hl
  go_enter Tryd.func121, Tryd.ntmps121
  go_wp2_with fail
  go_loopw [1] (fun n' wr => NumRel B g s w (l ++ numL n) n' wr) (fun n' _ => (intOf n').toNat)
  case atStart => exact ⟨n, s, l, Hn.out, rfl, rfl, H.out, Chg.refl _ _, fun k hk => .inl hk⟩
  case round =>
    clear c0 c1
    obtain ⟨m, s1, d, hm, rfl, hL, hp, hc, hw⟩ := hrel
    have Hm := hid hm
    have HL := hid hL
    have P := hid hp
    have C := hid hc
    have W := hid hw
    obtain ⟨a1, cap1, rfl, _, _⟩ := hp.row.bs
    have c0 : wr.cell? ⟨g, 0, none⟩ = some (.slice a1 d.length cap1) := by rw [hp.own.cell]; rfl
    have hbn := numL_len10 Hn.out
    have hbd : d.length + 1 ≤ 1000010 := by
      have := bound_of hL
      rw [List.length_append] at this
      have := Hl.out
      omega
    have Hbd := hid hbd
    clear hL hm hp hc hw hbn hbd
    by_cases h128 : m < 128
    · have hsrc := lit1 wr m (by omega)
      have hown := P.out.row.below (below_alloc wr (.cells #[.int .u8 (m : Int)] 5))
      have h1 : ¬ ((128 : Int) ≤ (m : Int)) := by omega
      have h2 : (m : Int) % 256 = (m : Int) := by omega
      have hB := hid (show B ≤ (wr.alloc (.cells #[.int .u8 (m : Int)] 5)).heap.size from Nat.le_trans P.out.ge (Nat.le_of_lt (Nat.lt_of_lt_of_le P.out.own.lt (below_alloc wr (.cells #[.int .u8 (m : Int)] 5)).size)))
      go_wp2_with (at_builtin; refine wpList_append_at (.tmp 32) (.tmp 35) _ rfl rfl _ 5 info_u8 under_bytes _ _ hown rfl hsrc rfl (by have := Hbd.out; simp; omega) hB.out ?_; intro v5 w1 hown1 hg1 hw1; obtain ⟨av, cv, e5, _, _⟩ := hown1.bs; rw [List.length_append, List.length_singleton] at e5; subst e5; obtain ⟨c3, f3, P3, C3, W3⟩ := P.out.put (below_alloc wr (.cells #[.int .u8 (m : Int)] 5)) hown1 hg1 hw1; replace P3 := hid P3; replace C3 := hid C3; replace W3 := hid W3; clear hown1 hg1 hw1 hown)
      go_end0
      obtain ⟨C4, W4⟩ := pen_step C.out W.out C3.out W3.out
      refine ⟨rfl, _, ?_, C4, W4⟩
      rw [numL_small h128] at HL
      rw [← HL.out]
      exact P3.out
    · have hsrc : BS (wr.alloc (.cells #[.int .u8 (bits .or .u8 ((m : Int) % 256) 128)] 5)) (some ⟨wr.heap.size, 0, none⟩) 1 [UInt8.ofNat (m % 128 + 128)] := by rw [or128]; exact lit1 wr (m % 128 + 128) (by omega)
      have hown := P.out.row.below (below_alloc wr (.cells #[.int .u8 (bits .or .u8 ((m : Int) % 256) 128)] 5))
      have h1 : (128 : Int) ≤ (m : Int) := by omega
      have hB := hid (show B ≤ (wr.alloc (.cells #[.int .u8 (bits .or .u8 ((m : Int) % 256) 128)] 5)).heap.size from Nat.le_trans P.out.ge (Nat.le_of_lt (Nat.lt_of_lt_of_le P.out.own.lt (below_alloc wr (.cells #[.int .u8 (bits .or .u8 ((m : Int) % 256) 128)] 5)).size)))
      go_wp2_with (at_builtin; refine wpList_append_at (.tmp 20) (.tmp 24) _ rfl rfl _ 5 info_u8 under_bytes _ _ hown rfl hsrc rfl (by have := Hbd.out; simp; omega) hB.out ?_; intro v5 w1 hown1 hg1 hw1; obtain ⟨av, cv, e5, _, _⟩ := hown1.bs; rw [List.length_append, List.length_singleton] at e5; subst e5; obtain ⟨c3, f3, P3, C3, W3⟩ := P.out.put (below_alloc wr (.cells #[.int .u8 (bits .or .u8 ((m : Int) % 256) 128)] 5)) hown1 hg1 hw1; replace P3 := hid P3; replace C3 := hid C3; replace W3 := hid W3; clear hown1 hg1 hw1 hown)
      obtain ⟨C4, W4⟩ := pen_step C.out W.out C3.out W3.out
      have R1 : NumRel B g s w (l ++ numL n) (.int .u64 ((m : Int) / 128)) (w1.setCell ⟨g, 0, none⟩ (.slice av (d.length + 1) cv)) :=
        ⟨m / 128, _, _, by have := Hm.out; omega, by go_num, (List.append_assoc _ _ _).trans (by rw [← HL.out, numL_big (n := m) (by omega)]; rfl), P3.out, C4, W4⟩
      refine ⟨?_, by simp [intOf]; omega⟩
      first | exact R1 | ((repeat apply Exists.intro); refine ⟨R1, ?_⟩; and_intros <;> rfl)

/-- a new pen -/
theorem new_calls (w : World) :
    Calls Tryd.prog 103 #[] w fun e w' => ∃ g, e = .returned (.pointer (some ⟨g, 0, none⟩)) ∧ IsPen w' w.heap.size g (.slice none 0 0) [] false ∧ g = w.heap.size ∧ Below w.heap.size w w' := by
  go_enter Tryd.func103, Tryd.ntmps103
  go_wp2_with fail
  go_ret
  refine ⟨w.heap.size, rfl, ⟨blk_alloc w [.slice none 0 0, .bool false] 205, World.ownsRow_nil _ _ _ _, Nat.le_refl _, by simp [Value.ownBlock]⟩, rfl, below_alloc w _⟩

set_option maxHeartbeats 400000 in
theorem inkbytes_calls (w : World) (B g : Nat) (s : Value) (l : List UInt8) (h : IsPen w B g s l false) (hl : l.length ≤ 1000000) :
    Calls Tryd.prog 105 #[.pointer (some ⟨g, 0, none⟩)] w (RetB w.heap.size w l) := by
  have c0 : w.cell? ⟨g, 0, none⟩ = some s := by rw [h.own.cell]; rfl
  have c1 : w.cell? ⟨g, 1, none⟩ = some (.bool false) := by rw [h.own.cell]; rfl
  obtain ⟨a, cap, rfl, hs, _⟩ := h.row.bs
  have Hs := hid hs
  clear h hs
  go_enter Tryd.func105, Tryd.ntmps105
  go_wp2_with fail
  refine (clone_calls _ _ _ _ Hs.out (by omega)).mono ?_
  rintro e w' ⟨v, rfl, ho, hb⟩
  go_wp2_with fail
  go_ret
  exact ⟨_, rfl, ho, hb⟩
end Go.Proofs.YtoapibbbooongaaDoor

/- The walks of layer 1: the eye. -/
namespace Go.Proofs.YtoapibbbooongaaDoor
open Go.RowKit Go.Quad _root_.Quad.Ink

/-- an eye in memory: at g, its bytes at a -/
structure IsEye (w : World) (B g : Nat) (a : Option Addr) (cap : Nat) (p : List UInt8) (bad : Bool) : Prop where
  own : Blk w g [.slice a p.length cap, .bool bad] 229
  row : BS w a cap p
  ge : B ≤ g
  up : ∀ x, a = some x → x.block < g
  lt : ∀ x, a = some x → B ≤ x.block
  form : ∀ x, a = some x → x.spot = none

theorem IsEye.off {w : World} {B g : Nat} {a : Option Addr} {cap : Nat} {p : List UInt8} {bad : Bool} (h : IsEye w B g a cap p bad) : Off g a := by
  cases a with
  | none => trivial
  | some x => exact Nat.ne_of_lt (h.up x rfl)

def EyeAt (w : World) (B g : Nat) (p : List UInt8) (bad : Bool) : Prop := ∃ a cap, IsEye w B g a cap p bad

/-- an eye that reads on -/
theorem IsEye.put {w : World} {B g : Nat} {a a' : Option Addr} {cap cap' : Nat} {p p' : List UInt8} {bad : Bool} (h : IsEye w B g a cap p bad) (hb : BS w a' cap' p') (ho : ∀ x, a' = some x → x.block < g) (hl : ∀ x, a' = some x → B ≤ x.block) (hfm : ∀ x, a' = some x → x.spot = none) :
    IsEye (w.setCell ⟨g, 0, none⟩ (.slice a' p'.length cap')) B g a' cap' p' bad :=
  ⟨by have := h.own.set 0 (.slice a' p'.length cap'); simpa using this,
   hb.other (row := some g) ⟨rfl, rfl, rfl, by simp [World.setCell], fun k _ hs => Below.heap_setCell _ _ _ _ (by simpa using Ne.symm (fun e => hs (by rw [e])))⟩ (by
     intro k hk; cases hk
     cases a' with
     | none => trivial
     | some x => exact Nat.ne_of_lt (ho x rfl)), h.ge, ho, hl, hfm⟩

set_option maxHeartbeats 400000 in
theorem fail_calls (w : World) (B g : Nat) (p : List UInt8) (h : EyeAt w B g p false) :
    Calls Tryd.prog 144 #[.pointer (some ⟨g, 0, none⟩)] w fun e w' => e = .returned (.int .u64 0) ∧ EyeAt w' B g [] true ∧ Chg [g] w w' := by
  obtain ⟨a, cap, h⟩ := h
  have c0 : w.cell? ⟨g, 0, none⟩ = some (.slice a p.length cap) := by rw [h.own.cell]; rfl
  have c1 : w.cell? ⟨g, 1, none⟩ = some (.bool false) := by rw [h.own.cell]; rfl
  have f0 := h.own.free 0
  have f1 := h.own.free 1
  have H := hid h
  clear h
  go_enter Tryd.func144, Tryd.ntmps144
  go_wp2_with fail
  go_ret
  have hB := H.out.own.set 1 (.bool true)
  refine ⟨rfl, ⟨none, 0, ?_, BS.nil _, H.out.ge, by simp, by simp, by simp⟩, (chg_setCell w g 1 _).trans (chg_setCell _ g 0 _)⟩
  have := hB.set 0 (.slice none 0 0)
  simpa using this

theorem end_calls (w : World) (B g : Nat) (p : List UInt8) (bad : Bool) (h : EyeAt w B g p bad) :
    Calls Tryd.prog 116 #[.pointer (some ⟨g, 0, none⟩)] w fun e w' => e = .returned (.int .i64 (if bad ∨ 0 < p.length then 4 else 0)) ∧ w = w' := by
  obtain ⟨a, cap, h⟩ := h
  have c0 : w.cell? ⟨g, 0, none⟩ = some (.slice a p.length cap) := by rw [h.own.cell]; rfl
  have c1 : w.cell? ⟨g, 1, none⟩ = some (.bool bad) := by rw [h.own.cell]; rfl
  clear h
  cases bad
  · by_cases h0 : 0 < p.length
    · have h0' : (0 : Int) < (p.length : Int) := by omega
      simp only [Bool.false_eq_true, false_or, h0, if_true]
      clear h0
      go_enter Tryd.func116, Tryd.ntmps116
      go_wp2_with fail
      go_ret
      exact ⟨rfl, rfl⟩
    · have h0' : ¬ ((0 : Int) < (p.length : Int)) := by omega
      simp only [Bool.false_eq_true, false_or, h0, if_false]
      clear h0
      go_enter Tryd.func116, Tryd.ntmps116
      go_wp2_with fail
      go_ret
      exact ⟨rfl, rfl⟩
  · simp only [true_or, if_true]
    go_enter Tryd.func116, Tryd.ntmps116
    go_wp2_with fail
    go_ret
    exact ⟨rfl, rfl⟩

theorem inkleft_calls (w : World) (B g : Nat) (p : List UInt8) (bad : Bool) (h : EyeAt w B g p bad) :
    Calls Tryd.prog 114 #[.pointer (some ⟨g, 0, none⟩)] w fun e w' => e = .returned (.int .i64 (p.length : Int)) ∧ w = w' := by
  obtain ⟨a, cap, h⟩ := h
  have c0 : w.cell? ⟨g, 0, none⟩ = some (.slice a p.length cap) := by rw [h.own.cell]; rfl
  clear h
  go_enter Tryd.func114, Tryd.ntmps114
  go_wp2_with fail
  go_ret
  exact ⟨rfl, rfl⟩

set_option maxHeartbeats 400000 in
theorem inkread_calls (a : Option Addr) (cap : Nat) (l : List UInt8) (w : World) (h : BS w a cap l) (hn : l.length ≤ 140737488355328) :
    Calls Tryd.prog 113 #[.slice a l.length cap] w fun e w' => ∃ g, e = .returned (.pointer (some ⟨g, 0, none⟩)) ∧ EyeAt w' w.heap.size g l false ∧ Below w.heap.size w w' := by
  have H := hid h
  clear h
  go_enter Tryd.func113, Tryd.ntmps113
  go_wp2_with fail
  refine (clone_calls _ _ _ _ H.out hn).mono ?_
  rintro e w1 ⟨v, rfl, ho, hb⟩
  obtain ⟨a1, c1, rfl, hs, hx⟩ := ho.bs
  have Hs := hid hs
  have Hx := hid hx
  have Hb := hid hb
  clear ho hs hx hb
  go_wp2_with fail
  go_ret
  refine ⟨w1.heap.size, rfl, ⟨a1, c1, ?_, ?_, Hb.out.size, ?_, ?_, fun x hx => (Hx.out x hx).2.1⟩, Hb.out.trans ((below_alloc w1 _).mono Hb.out.size)⟩
  · exact blk_alloc w1 [.slice a1 l.length c1, .bool false] _
  · exact Hs.out.below (below_alloc w1 _)
  · intro x hx; exact (Hx.out x hx).2.2.2
  · intro x hx; exact (Hx.out x hx).2.2.1

theorem andNot128 (x : Nat) (h : x < 256) : bits .andNot .u8 (x : Int) 128 = ((x % 128 : Nat) : Int) := by
  have h' : ∀ x : Fin 256, bits .andNot .u8 ((x.val : Nat) : Int) 128 = ((x.val % 128 : Nat) : Int) := by decide +kernel
  exact h' ⟨x, h⟩

theorem num_step (k V x : Nat) (hk : k ≤ 9) (hx : x < 256) (hV : V < 128 ^ k) (h9 : k = 9 → x ≤ 1) :
    bits .or .u64 (V : Int) (IntKind.u64.wrap (IntKind.u64.wrap (bits .andNot .u8 (x : Int) 128) * 2 ^ (7 * k))) = ((V + 128 ^ k * (x % 128) : Nat) : Int) := by
  have hp : (128 : Nat) ^ k = 2 ^ (7 * k) := by rw [Nat.pow_mul]
  have hb : 128 ^ k * (x % 128) < 18446744073709551616 - 128 ^ k ∨ (k = 9 ∧ 128 ^ k * (x % 128) ≤ 9223372036854775808) := by
    by_cases h : k = 9
    · subst h
      have := h9 rfl
      right
      refine ⟨rfl, ?_⟩
      have : x % 128 ≤ 1 := by omega
      have e : (128 : Nat) ^ 9 = 9223372036854775808 := by decide
      rw [e]
      omega
    · left
      have h8 : ∀ j : Fin 9, 128 ^ j.val * 127 < 18446744073709551616 - 128 ^ j.val := by decide
      have := h8 ⟨k, by omega⟩
      dsimp only at this
      have h2 : 128 ^ k * (x % 128) ≤ 128 ^ k * 127 := Nat.mul_le_mul_left _ (by omega)
      omega
  have hlt : 128 ^ k * (x % 128) < 18446744073709551616 := by omega
  rw [andNot128 x hx, IntWalk.u64_in ((x % 128 : Nat) : Int) ⟨by omega, by omega⟩]
  have e1 : (((x % 128 : Nat) : Int) * 2 ^ (7 * k)) = ((128 ^ k * (x % 128) : Nat) : Int) := by
    rw [hp]; push_cast; rw [Int.mul_comm]
  have hV64 : V < 18446744073709551616 := by
    have h8 : ∀ j : Fin 10, 128 ^ j.val ≤ 9223372036854775808 := by decide
    have := h8 ⟨k, by omega⟩
    dsimp only at this
    omega
  rw [e1, IntWalk.u64_in _ ⟨by omega, by omega⟩, u64_or_nat _ _ hV64 hlt]
  congr 1
  rw [hp] at hV ⊢
  rw [Nat.or_comm, ← Nat.two_pow_add_eq_or_of_lt hV, Nat.add_comm]

theorem IsEye.read {w : World} {B g b off cap : Nat} {p : List UInt8} {bad : Bool} (h : IsEye w B g (some ⟨b, off, none⟩) cap p bad) (k : Nat) (hk : k < p.length) (o' : Nat) (ho : cap = k + 1 ∨ o' = off + (k + 1)) :
    EyeAt (w.setCell ⟨g, 0, none⟩ (.slice (some ⟨b, o', none⟩) (p.length - (k + 1)) (cap - (k + 1)))) B g (p.drop (k + 1)) bad := by
  have hf := h.row.fit'
  have hm := CS.max h.row
  have hl : (p.drop (k + 1)).length = p.length - (k + 1) := List.length_drop
  have hb : BS w (some ⟨b, o', none⟩) (cap - (k + 1)) (p.drop (k + 1)) := by
    rcases ho with rfl | rfl
    · have : p.drop (k + 1) = [] := List.eq_nil_of_length_eq_zero (by omega)
      rw [this]
      exact ⟨by simp, by omega, by simp, .inl (by simp)⟩
    · obtain ⟨b', off', e, hc⟩ := BS.at h.row (by omega)
      cases e
      refine BS.of_row (len := p.length - (k + 1)) hl (by omega) (by omega) fun i hi => ?_
      have := hc (k + 1 + i) (by omega)
      rw [show off + (k + 1) + i = off + (k + 1 + i) from by omega, this]
      simp
  have := h.put hb (fun x hx => by cases hx; exact h.up ⟨b, off, none⟩ rfl) (fun x hx => by cases hx; exact h.lt ⟨b, off, none⟩ rfl) (fun x hx => by cases hx; rfl)
  rw [hl] at this
  exact ⟨_, _, this⟩

theorem valL_snoc (y : UInt8) : ∀ l : List UInt8, valL (l ++ [y]) = valL l + 128 ^ l.length * (y.toNat % 128)
  | [] => by simp [valL]
  | b :: l => by
    rw [List.cons_append, valL, valL_snoc y l, valL, List.length_cons, Nat.pow_succ]
    rw [Nat.mul_add, Nat.add_assoc, ← Nat.mul_assoc, Nat.mul_comm 128 (128 ^ l.length)]

theorem rd_next {p : List UInt8} {k V : Nat} {y : UInt8} (hk : k < 10) (hr : rd 0 p = (rd k (p.drop k)).map fun x => (V + 128 ^ k * x.1, x.2)) (hd : p.drop k = y :: p.drop (k + 1))
    (h9 : ¬ (k = 9 ∧ 1 < y.toNat)) (h1 : ¬ y.toNat < 128) : rd 0 p = (rd (k + 1) (p.drop (k + 1))).map fun x => (V + 128 ^ k * (y.toNat % 128) + 128 ^ (k + 1) * x.1, x.2) := by
  rw [hr, hd, rd, if_neg (by omega), if_neg h9, if_neg h1, Option.map_map]
  congr 1
  funext x
  simp only [Function.comp]
  rw [Nat.mul_add, Nat.pow_succ, Nat.mul_assoc, Nat.add_assoc]

theorem rd_ret {p : List UInt8} {k V : Nat} {y : UInt8} (hk : k < 10) (hr : rd 0 p = (rd k (p.drop k)).map fun x => (V + 128 ^ k * x.1, x.2)) (hd : p.drop k = y :: p.drop (k + 1))
    (h9 : ¬ (k = 9 ∧ 1 < y.toNat)) (h1 : y.toNat < 128) (h0 : ¬ (y.toNat = 0 ∧ 0 < k)) : rd 0 p = some (V + 128 ^ k * (y.toNat % 128), p.drop (k + 1)) := by
  rw [hr, hd, rd, if_neg (by omega), if_neg h9, if_pos h1, if_neg h0, Nat.mod_eq_of_lt h1]
  rfl

theorem rd_bad {p : List UInt8} {k V : Nat} {y : UInt8} (hr : rd 0 p = (rd k (p.drop k)).map fun x => (V + 128 ^ k * x.1, x.2)) (hd : p.drop k = y :: p.drop (k + 1))
    (h : (k = 9 ∧ 1 < y.toNat) ∨ (y.toNat < 128 ∧ y.toNat = 0 ∧ 0 < k)) : rd 0 p = none := by
  rw [hr, hd, rd]
  by_cases h10 : 10 ≤ k
  · rw [if_pos h10]; rfl
  · rw [if_neg h10]
    by_cases h9 : k = 9 ∧ 1 < y.toNat
    · rw [if_pos h9]; rfl
    · rw [if_neg h9]
      rcases h with h | ⟨h1, h2⟩
      · exact absurd h h9
      · rw [if_pos h1, if_pos h2]; rfl

def EyeRel (p : List UInt8) (n i : Value) : Prop :=
  ∃ k : Nat, k ≤ 10 ∧ k ≤ p.length ∧ i = .int .i64 (k : Int) ∧ n = .int .u64 ((valL (p.take k) : Nat) : Int) ∧ valL (p.take k) < 128 ^ k ∧
    rd 0 p = (rd k (p.drop k)).map fun x => (valL (p.take k) + 128 ^ k * x.1, x.2)

/-- what an eye answers to the question for a number, and what becomes of it -/
def numTo (p : List UInt8) : Nat × List UInt8 × Bool :=
  match rd 0 p with
  | some (n, r) => (n, r, false)
  | none => (0, [], true)

set_option maxRecDepth 20000 in
set_option maxHeartbeats 1000000 in
theorem eyenum_calls (w : World) (B g : Nat) (p : List UInt8) (h : EyeAt w B g p false) :
    Calls Tryd.prog 143 #[.pointer (some ⟨g, 0, none⟩)] w fun e w' =>
      e = .returned (.int .u64 ((numTo p).1 : Int)) ∧ EyeAt w' B g (numTo p).2.1 (numTo p).2.2 ∧ Chg [g] w w' := by
  have he := hid h
  obtain ⟨a, cap, h⟩ := h
  have c0 : w.cell? ⟨g, 0, none⟩ = some (.slice a p.length cap) := by rw [h.own.cell]; rfl
  have c1 : w.cell? ⟨g, 1, none⟩ = some (.bool false) := by rw [h.own.cell]; rfl
  have f0 := h.own.free 0
  have H := hid h
  have hm := h.row.max'
  have hf := h.row.fit'
  clear h
  go_enter Tryd.func143, Tryd.ntmps143
  go_wp2_with fail
  go_loop [3, 4, 5, 14] (fun n _ _ i => EyeRel p n i) (fun _ _ _ i => 10 - (intOf i).toNat)
  case atStart => exact ⟨0, by omega, by omega, rfl, rfl, by simp [valL], by simp [valL]⟩
  case round =>
    obtain ⟨k, hk, hkp, rfl, rfl, hv, hr⟩ := hrel
    have Hr := hid hr
    have Hv := hid hv
    clear hr hv
    generalize hV : valL (p.take k) = V at Hr Hv
    have HV := hid hV
    clear hV
    by_cases h10 : k < 10
    · by_cases hp : k < p.length
      · obtain ⟨b, off, rfl, hc⟩ := BS.at H.out.row (by omega)
        replace hc := hc k hp
        have hb := (p[k]).toNat_lt
        have Hd := hid (show p.drop k = p[k] :: p.drop (k + 1) from List.drop_eq_getElem_cons hp)
        have Ht := hid (show p.take (k + 1) = p.take k ++ [p[k]] from List.take_succ_eq_append_getElem hp)
        generalize p[k] = y at hc hb Hd Ht
        generalize hx : y.toNat = x at hc hb
        have Hx := hid hx
        clear hx
        by_cases h9 : k = 9
        · have h9b : ((k : Int) == 9) = true := by simp; omega
          have hk0 : (0 : Int) < (k : Int) := by omega
          by_cases h1 : 1 < x
          · have h1' : (1 : Int) < (x : Int) := by omega
            have HX := hid (show (k = 9 ∧ 1 < x) ∨ (x < 128 ∧ x = 0 ∧ 0 < k) by omega)
            clear h9 h1
            go_wp2_with fail
            refine (fail_calls w B g p he.out).mono ?_
            rintro e w' ⟨rfl, hE, hC⟩
            go_wp2_with fail
            go_ret
            have e : numTo p = (0, [], true) := by unfold numTo; rw [rd_bad Hr.out Hd.out (by rw [Hx.out]; exact HX.out)]
            rw [e]
            exact ⟨rfl, hE, hC⟩
          · have h1' : ¬ ((1 : Int) < (x : Int)) := by omega
            have h128 : (x : Int) < 128 := by omega
            by_cases h0 : x = 0
            · have h0b : ((x : Int) == 0) = true := by simp; omega
              have HX := hid (show (k = 9 ∧ 1 < x) ∨ (x < 128 ∧ x = 0 ∧ 0 < k) by omega)
              clear h9 h1 h0
              go_wp2_with fail
              refine (fail_calls w B g p he.out).mono ?_
              rintro e w' ⟨rfl, hE, hC⟩
              go_wp2_with fail
              go_ret
              have e : numTo p = (0, [], true) := by unfold numTo; rw [rd_bad Hr.out Hd.out (by rw [Hx.out]; exact HX.out)]
              rw [e]
              exact ⟨rfl, hE, hC⟩
            · have h0b : ((x : Int) == 0) = false := by simp; omega
              have HX := hid (show ¬ (k = 9 ∧ 1 < x) ∧ x < 128 ∧ ¬ (x = 0 ∧ 0 < k) by omega)
              clear h9 h1 h0
              go_wp2_with fail
              all_goals go_ret
              all_goals
                have e : numTo p = (V + 128 ^ k * (x % 128), p.drop (k + 1), false) := by unfold numTo; rw [rd_ret h10 Hr.out Hd.out (by rw [Hx.out]; exact HX.out.1) (by rw [Hx.out]; exact HX.out.2.1) (by rw [Hx.out]; exact HX.out.2.2), Hx.out]
                rw [e, ← num_step k V x (by omega) hb Hv.out (by have := HX.out; omega)]
                refine ⟨rfl, ?_, chg_setCell w g 0 _⟩
              · have hcap : cap = k + 1 := by assumption
                have := H.out.read k hp off (.inl hcap)
                rw [show cap - (k + 1) = 0 from by omega] at this
                exact this
              · exact H.out.read k hp _ (.inr rfl)
        · have h9b : ((k : Int) == 9) = false := by simp; omega
          have hk8 : (k : Int) ≤ 8 := by omega
          by_cases h128 : x < 128
          · have h128' : (x : Int) < 128 := by omega
            by_cases h0 : x = 0 ∧ 0 < k
            · have h0b : ((x : Int) == 0) = true := by simp; omega
              have hk0 : (0 : Int) < (k : Int) := by omega
              have HX := hid (show (k = 9 ∧ 1 < x) ∨ (x < 128 ∧ x = 0 ∧ 0 < k) by omega)
              clear h9 h0
              go_wp2_with fail
              refine (fail_calls w B g p he.out).mono ?_
              rintro e w' ⟨rfl, hE, hC⟩
              go_wp2_with fail
              go_ret
              have e : numTo p = (0, [], true) := by unfold numTo; rw [rd_bad Hr.out Hd.out (by rw [Hx.out]; exact HX.out)]
              rw [e]
              exact ⟨rfl, hE, hC⟩
            · by_cases hx0 : x = 0
              · have h0b : ((x : Int) == 0) = true := by simp; omega
                have hk0 : ¬ ((0 : Int) < (k : Int)) := by omega
                have HX := hid (show ¬ (k = 9 ∧ 1 < x) ∧ x < 128 ∧ ¬ (x = 0 ∧ 0 < k) by omega)
                clear h9 h0 hx0
                go_wp2_with fail
                all_goals go_ret
                all_goals
                  have e : numTo p = (V + 128 ^ k * (x % 128), p.drop (k + 1), false) := by unfold numTo; rw [rd_ret h10 Hr.out Hd.out (by rw [Hx.out]; exact HX.out.1) (by rw [Hx.out]; exact HX.out.2.1) (by rw [Hx.out]; exact HX.out.2.2), Hx.out]
                  rw [e, ← num_step k V x (by omega) hb Hv.out (by have := HX.out; omega)]
                  refine ⟨rfl, ?_, chg_setCell w g 0 _⟩
                · have hcap : cap = k + 1 := by assumption
                  have := H.out.read k hp off (.inl hcap)
                  rw [show cap - (k + 1) = 0 from by omega] at this
                  exact this
                · exact H.out.read k hp _ (.inr rfl)
              · have h0b : ((x : Int) == 0) = false := by simp; omega
                have HX := hid (show ¬ (k = 9 ∧ 1 < x) ∧ x < 128 ∧ ¬ (x = 0 ∧ 0 < k) by omega)
                clear h9 h0 hx0
                go_wp2_with fail
                all_goals go_ret
                all_goals
                  have e : numTo p = (V + 128 ^ k * (x % 128), p.drop (k + 1), false) := by unfold numTo; rw [rd_ret h10 Hr.out Hd.out (by rw [Hx.out]; exact HX.out.1) (by rw [Hx.out]; exact HX.out.2.1) (by rw [Hx.out]; exact HX.out.2.2), Hx.out]
                  rw [e, ← num_step k V x (by omega) hb Hv.out (by have := HX.out; omega)]
                  refine ⟨rfl, ?_, chg_setCell w g 0 _⟩
                · have hcap : cap = k + 1 := by assumption
                  have := H.out.read k hp off (.inl hcap)
                  rw [show cap - (k + 1) = 0 from by omega] at this
                  exact this
                · exact H.out.read k hp _ (.inr rfl)
          · have h128' : ¬ ((x : Int) < 128) := by omega
            go_wp2_with fail
            rw [num_step k V x (by omega) hb Hv.out (by omega)]
            have R1 : EyeRel p (.int .u64 ((V + 128 ^ k * (x % 128) : Nat) : Int)) (.int .i64 ((k : Int) + 1)) := by
              have e : valL (p.take (k + 1)) = V + 128 ^ k * (x % 128) := by
                rw [Ht.out, valL_snoc, HV.out, Hx.out, List.length_take, Nat.min_eq_left (by omega)]
              refine ⟨k + 1, by omega, by omega, by go_num, by rw [e], ?_, ?_⟩
              · rw [e, Nat.pow_succ]
                have h1 : 128 ^ k * (x % 128) ≤ 128 ^ k * 127 := Nat.mul_le_mul_left _ (by omega)
                have := Hv.out
                omega
              · rw [rd_next h10 Hr.out Hd.out (by rw [Hx.out]; omega) (by rw [Hx.out]; omega), e, Hx.out]
            refine ⟨?_, by simp [intOf]; omega⟩
            first | exact R1 | ((repeat apply Exists.intro); refine ⟨R1, ?_⟩; and_intros <;> rfl)
      · obtain rfl : k = p.length := by omega
        go_wp2_with fail
        refine (fail_calls w B g p he.out).mono ?_
        rintro e w' ⟨rfl, hE, hC⟩
        go_wp2_with fail
        go_ret
        have e : numTo p = (0, [], true) := by unfold numTo; rw [Hr.out, List.drop_length]; rfl
        rw [e]
        exact ⟨rfl, hE, hC⟩
    · obtain rfl : k = 10 := by omega
      go_wp2_with fail
      refine (fail_calls w B g p he.out).mono ?_
      rintro e w' ⟨rfl, hE, hC⟩
      go_wp2_with fail
      go_ret
      have e : numTo p = (0, [], true) := by
        unfold numTo
        rw [Hr.out]
        have : rd 10 (p.drop 10) = none := by
          cases p.drop 10 with
          | nil => rfl
          | cons b r => rw [rd, if_pos (by decide)]
        rw [this]
        rfl
      rw [e]
      exact ⟨rfl, hE, hC⟩
end Go.Proofs.YtoapibbbooongaaDoor

/- The walks of layer 1: the pen's texts, the document's examples. -/
namespace Go.Proofs.YtoapibbbooongaaDoor
open Go.RowKit Go.Quad _root_.Quad.Ink

/-- not in a pen's memory -/
def OffPen (g : Nat) (s : Value) (a : Option Addr) (t : List UInt8) : Prop := t = [] ∨ ∀ x, a = some x → x.block ∉ penS g s

set_option maxHeartbeats 1000000 in
theorem pentext_calls (w : World) (B g : Nat) (s : Value) (l : List UInt8) (a : Option Addr) (cap : Nat) (t : List UInt8) (h : IsPen w B g s l false) (hl : l.length ≤ 900000) (ht : BS w a cap t) (hn : t.length ≤ 50000) (ho : OffPen g s a t) :
    Calls Tryd.prog 104 #[.pointer (some ⟨g, 0, none⟩), .slice a t.length cap] w fun e w' =>
      e = .returned (.tuple #[]) ∧ ∃ s', IsPen w' B g s' (l ++ (numL t.length ++ t)) false ∧ Chg (penS g s) w w' ∧ (∀ k, s'.ownBlock = some k → s.ownBlock = some k ∨ w.heap.size ≤ k) := by
  have hn' : (t.length : Int) ≤ 50000 := by omega
  have H := hid h
  have T := hid ht
  have Hl := hid hl
  have O := hid ho
  clear h ht hl ho
  go_enter Tryd.func104, Tryd.ntmps104
  go_wp2_with fail
  refine (pennum_calls t.length (by omega) w B g s l H.out (by have := Hl.out; omega)).mono ?_
  rintro e w1 ⟨rfl, s1, h1, hc1, hw1⟩
  have c1 : w1.cell? ⟨g, 1, none⟩ = some (.bool false) := by rw [h1.own.cell]; rfl
  have T1 := hid (Or.elim O.out (fun e => by subst e; exact bs_void T.out) (fun o => cs_chg T.out hc1 o))
  obtain ⟨a1, cap1, rfl, _, _⟩ := h1.row.bs
  have c0 : w1.cell? ⟨g, 0, none⟩ = some (.slice a1 (l ++ numL t.length).length cap1) := by rw [h1.own.cell]; rfl
  have hlen := numL_len10 (n := t.length) (by omega)
  have hbd : l.length + (numL t.length).length + t.length ≤ 1000000 := by have := Hl.out; omega
  have Hbd := hid hbd
  have H1 := hid h1
  have C1 := hid hc1
  have W1 := hid hw1
  have hown := h1.row
  clear h1 hc1 hw1 hlen hbd
  rw [List.length_append] at c0
  go_wp2_with (at_builtin; refine wpList_append_at (.tmp 22) (.tmp 23) _ rfl rfl _ 5 info_u8 under_bytes _ _ hown (by rw [List.length_append]; rfl) T1.out rfl (by have := Hbd.out; rw [List.length_append]; omega) (Nat.le_trans H1.out.ge (Nat.le_of_lt H1.out.own.lt)) ?_; intro v5 w2 hown1 hg1 hw2; obtain ⟨av, cv, e5, _, _⟩ := hown1.bs; subst e5; obtain ⟨c3, f3, P3, C3, W3⟩ := H1.out.put (Below.refl _ w1) hown1 hg1 hw2; replace P3 := hid P3; replace C3 := hid C3; replace W3 := hid W3; clear hown1 hg1 hw2 hown)
  go_end0
  have e : (l ++ numL t.length ++ t).length = l.length + ((numL t.length).length + t.length) := by simp only [List.length_append, Nat.add_assoc]
  obtain ⟨C4, W4⟩ := pen_step C1.out W1.out C3.out W3.out
  have P4 := P3.out
  rw [e] at C4 W4 P4
  rw [List.append_assoc] at P4
  exact ⟨rfl, _, P4, C4, W4⟩

theorem EyeAt.below {w w' : World} {B g : Nat} {p : List UInt8} {bad : Bool} (h : EyeAt w B g p bad) (hb : Below w.heap.size w w') : EyeAt w' B g p bad := by
  obtain ⟨a, cap, h⟩ := h
  exact ⟨a, cap, h.own.below hb, h.row.below hb, h.ge, h.up, h.lt, h.form⟩

theorem below_chg {S : List Nat} {B : Nat} {w w1 w2 : World} (h : Below B w w1) (hB : B ≤ w1.heap.size) (hc : Chg S w1 w2) (hs : ∀ k ∈ S, B ≤ k) : Below B w w2 := h.trans (hc.below hB hs)

theorem IsPen.pens {w : World} {B g : Nat} {s : Value} {l : List UInt8} {bad : Bool} (h : IsPen w B g s l bad) : ∀ k ∈ penS g s, B ≤ k := by
  intro k hk
  rcases List.mem_cons.1 hk with rfl | hk
  · exact h.ge
  · exact h.row.ownBlock k (by simpa using hk)

theorem lit_marked (w : World) (l : List UInt8) (hm : l.length ≤ maxLen) (fr : Nat × Nat) : BS (w.alloc (.cells (l.map u8v).toArray 5 fr)) (some ⟨w.heap.size, 0, none⟩) l.length l :=
  BS.of_row rfl (Nat.le_refl _) hm fun i hi => by
    have hh : (w.alloc (.cells (l.map u8v).toArray 5 fr)).heap[w.heap.size]? = some (.cells (l.map u8v).toArray 5 fr) := heap_alloc_new w _
    unfold World.cell?
    rw [hh]
    simp [hi, u8v]

end Go.Proofs.YtoapibbbooongaaDoor

/- The walks of layer 1: a pen in whatever state. -/
namespace Go.Proofs.YtoapibbbooongaaDoor
open Go.RowKit Go.Quad _root_.Quad.Ink

/-- what a call of a pen's leaves -/
def PenTo (w : World) (B g : Nat) (s : Value) (l' : List UInt8) (bad' : Bool) (e : Ending) (w' : World) : Prop :=
  e = .returned (.tuple #[]) ∧ ∃ s', IsPen w' B g s' l' bad' ∧ Chg (penS g s) w w' ∧ (∀ k, s'.ownBlock = some k → s.ownBlock = some k ∨ w.heap.size ≤ k)

/-- bytes more, unless the pen is bad -/
def addN (bad : Bool) (l x : List UInt8) : List UInt8 := if bad then l else l ++ x
def intN (n : Int) (bad : Bool) (l : List UInt8) : List UInt8 := if n < 0 then l else addN bad l (numL n.toNat)

theorem pnum_any (n : Nat) (hn : n < 18446744073709551616) (w : World) (B g : Nat) (s : Value) (l : List UInt8) (bad : Bool) (h : IsPen w B g s l bad) (hl : l.length ≤ 1000000) :
    Calls Tryd.prog 121 #[.pointer (some ⟨g, 0, none⟩), .int .u64 (n : Int)] w (PenTo w B g s (addN bad l (numL n)) bad) := by
  cases bad
  · exact pennum_calls n hn w B g s l h hl
  · have c1 : w.cell? ⟨g, 1, none⟩ = some (.bool true) := by rw [h.own.cell]; rfl
    have H := hid h
    clear h hl hn
    go_enter Tryd.func121, Tryd.ntmps121
    go_wp2_with fail
    (try simp only [Exit.inBlock, Exit.then])
    refine bodyPost_ret (results_none rfl _ _ _) rfl ?_
    exact ⟨rfl, s, H.out, Chg.refl _ _, fun k hk => .inl hk⟩

theorem IsPen.setBad {w : World} {B g : Nat} {s : Value} {l : List UInt8} {bad : Bool} (h : IsPen w B g s l bad) : IsPen (w.setCell ⟨g, 1, none⟩ (.bool true)) B g s l true := by
  refine ⟨?_, h.row.chg (chg_setCell w g 1 _) (fun k hk hm => ?_), h.ge, h.ne⟩
  · have := h.own.set 1 (.bool true)
    simpa using this
  · simp at hm
    subst hm
    exact h.ne hk

theorem ptext_any (w : World) (B g : Nat) (s : Value) (l : List UInt8) (bad : Bool) (a : Option Addr) (cap : Nat) (t : List UInt8) (h : IsPen w B g s l bad) (hl : l.length ≤ 900000) (ht : BS w a cap t) (hn : t.length ≤ 50000) (ho : OffPen g s a t) :
    Calls Tryd.prog 104 #[.pointer (some ⟨g, 0, none⟩), .slice a t.length cap] w (PenTo w B g s (addN bad l (numL t.length ++ t)) bad) := by
  cases bad
  · exact pentext_calls w B g s l a cap t h hl ht hn ho
  · have C := hid (pnum_any t.length (by omega) w B g s l true h (by omega))
    have hn' : (t.length : Int) ≤ 50000 := by omega
    clear h hl ht ho
    go_enter Tryd.func104, Tryd.ntmps104
    go_wp2_with fail
    refine C.out.mono ?_
    rintro e w1 ⟨rfl, s1, h1, hc1, hw1⟩
    have c1 : w1.cell? ⟨g, 1, none⟩ = some (.bool true) := by rw [h1.own.cell]; rfl
    have H1 := hid h1
    have C1 := hid hc1
    have W1 := hid hw1
    clear h1 hc1 hw1
    go_wp2_with fail
    go_end0
    exact ⟨rfl, s1, H1.out, C1.out, W1.out⟩

def want1 (bad : Bool) (d : List UInt8) : List UInt8 := if bad then [] else d

theorem bytes_any (w : World) (B g : Nat) (s : Value) (l : List UInt8) (bad : Bool) (h : IsPen w B g s l bad) (hl : l.length ≤ 1000000) :
    Calls Tryd.prog 105 #[.pointer (some ⟨g, 0, none⟩)] w (RetB w.heap.size w (want1 bad l)) := by
  cases bad
  · exact inkbytes_calls w B g s l h hl
  · have c1 : w.cell? ⟨g, 1, none⟩ = some (.bool true) := by rw [h.own.cell]; rfl
    clear h hl
    go_enter Tryd.func105, Tryd.ntmps105
    go_wp2_with fail
    go_ret
    exact ⟨_, rfl, World.ownsRow_nil w _ _ _, Below.refl _ _⟩

/-! ### the scripts of this layer -/
structure InkOpD where
  d : Nat
  n : Int
  a : Option Addr
  cap : Nat
  t : List UInt8

def inkOpV (o : InkOpD) : List Value := [.int .u8 (o.d : Int), .int .i64 o.n, .slice o.a o.t.length o.cap]
theorem inkOpV_length (o : InkOpD) : (inkOpV o).length = 3 := rfl
def InkOkOp (w : World) (o : InkOpD) : Prop := o.d < 256 ∧ (-9223372036854775808 ≤ o.n ∧ o.n ≤ 9223372036854775807) ∧ BS w o.a o.cap o.t

end Go.Proofs.YtoapibbbooongaaDoor
