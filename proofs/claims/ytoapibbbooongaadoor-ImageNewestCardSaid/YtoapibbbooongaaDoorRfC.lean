/- The document's slab: a read. -/
import Derived.Test.YtoapibbbooongaaDoorRfB
namespace Go.Proofs.YtoapibbbooongaaDoor
open Go.RowKit Go.Quad _root_.Quad.Slab

theorem nilrget_calls (w : World) (i : Int) : Calls Tryd.prog 97 #[.pointer none, .int .i64 i] w fun e w' => e = .returned (.tuple #[.slice none 0 0, .int .i64 6]) ∧ w = w' := by
  go_enter Tryd.func97, Tryd.ntmps97
  go_wp2_with fail
  go_ret2
  exact ⟨rfl, rfl⟩

theorem rgetno_calls (w : World) (F : Nat → Prop) (B g dn dc : Nat) (wv : Value) (s : Sl) (i : Int) (h : IsRf w F B g dn dc wv s) (hi : -9223372036854775808 ≤ i ∧ i ≤ 9223372036854775807) (h0 : hasL s i 0 ≠ 0) :
    Calls Tryd.prog 97 #[.pointer (some ⟨g, 0, none⟩), .int .i64 i] w fun e w' => e = .returned (.tuple #[.slice none 0 0, .int .i64 (hasL s i 0 : Int)]) ∧ w = w' := by
  have c0 := h.own.get 0 rfl
  have c2 := h.own.get 2 rfl
  have hsm := h.ok.small
  clear h
  obtain ⟨done, way, off, armed, steps⟩ := s
  dsimp only at c0 c2 hsm
  unfold hasL at h0 ⊢
  dsimp only at h0 ⊢
  by_cases h1 : i < 0
  · rw [if_pos (.inl h1)]
    clear h0
    go_enter Tryd.func97, Tryd.ntmps97
    go_wp2_with fail
    go_ret2
    exact ⟨rfl, rfl⟩
  · have h1' : decide (i < 0) = false := by simpa using h1
    by_cases h2 : (done.length : Int) ≤ i
    · rw [if_pos (.inr h2)]
      clear h0
      go_enter Tryd.func97, Tryd.ntmps97
      go_wp2_with fail
      go_ret2
      exact ⟨rfl, rfl⟩
    · rw [if_neg (by omega), if_neg (by omega)] at h0 ⊢
      have ho : off = true := by cases off <;> simp at h0 ⊢
      subst ho
      clear h0
      go_enter Tryd.func97, Tryd.ntmps97
      go_wp2_with fail
      go_ret2
      exact ⟨rfl, rfl⟩

/-- what is seen of a sector, of the first k writes -/
def seenK (s : Sl) (i k : Nat) : Bytes := (s.way.take k).foldl (fun p w => if w.1 = i then w.2 else p) (s.done.getD i [])
theorem seenK_succ (s : Sl) (i k : Nat) (hk : k < s.way.length) : seenK s i (k + 1) = if s.way[k].1 = i then s.way[k].2 else seenK s i k := by
  unfold seenK
  rw [List.take_succ_eq_append_getElem hk, List.foldl_append]; rfl
theorem seenK_all (s : Sl) (i : Nat) : seenK s i s.way.length = seenL s i := by unfold seenK seenL; rw [List.take_length]

def RgRel (s : Sl) (i : Nat) (w : World) (F : Nat → Prop) (g dn : Nat) (pv iv : Value) (wr : World) : Prop :=
  ∃ k : Nat, iv = .int .i64 (k : Int) ∧ k ≤ s.way.length ∧ SecAt w F g dn pv (seenK s i k) ∧ Below w.heap.size w wr

theorem dLD_get {w : World} {F : Nat → Prop} {B g dn dc : Nat} {wv : Value} {s : Sl} (h : IsRf w F B g dn dc wv s) (i : Nat) (hi : i < s.done.length) :
    ∃ v, w.cell? ⟨dn, i, none⟩ = some v ∧ w.frozen? ⟨dn, i, none⟩ = false ∧ SecAt w F g dn v s.done[i] := by
  obtain ⟨LD, h1, h2, h3⟩ := h.don
  have hl : LD.length = s.done.length := by rw [← h2]; simp
  have hx : (LD.flatMap dD)[i]? = some LD[i].1 := by
    have := flat_get dD 1 dD_length LD i 0 LD[i] (List.getElem?_eq_getElem (by omega)) (by decide)
    rw [Nat.mul_one, Nat.add_zero] at this
    rw [this]; rfl
  obtain ⟨q1, q2⟩ := row_at h1 i hi hx
  refine ⟨_, q1, q2, ?_⟩
  have := h3 _ (List.getElem_mem (l := LD) (n := i) (by omega))
  have e : s.done[i] = LD[i].2 := by
    have : (LD.map (·.2))[i]'(by simp; omega) = s.done[i] := by simp only [h2]
    rw [← this]; simp
  rw [e]; exact this

theorem dLW_get {w : World} {F : Nat → Prop} {B g dn dc : Nat} {wv : Value} {s : Sl} (h : IsRf w F B g dn dc wv s) (k : Nat) (hk : k < s.way.length) :
    ∃ b off c v, wv = .slice (some ⟨b, off, none⟩) s.way.length c ∧ w.cell? ⟨b, off + k * 2, none⟩ = some (.int .i64 (s.way[k].1 : Int)) ∧ w.cell? ⟨b, off + k * 2 + 1, none⟩ = some v ∧ SecAt w F g dn v s.way[k].2 := by
  obtain ⟨a, c, LW, rfl, hc, hle, hm, hs, _⟩ := h.way
  have hl : LW.length = s.way.length := by rw [← hm]; simp
  obtain ⟨b, off, rfl, hcell⟩ := cs_row dW_length hc (k := k) (by omega) (by decide)
  have e : s.way[k] = (LW[k].1, LW[k].2.2) := by
    have : (LW.map (fun x => (x.1, x.2.2)))[k]'(by simp; omega) = s.way[k] := by simp only [hm]
    rw [← this]; simp
  refine ⟨b, off, c, LW[k].2.1, by rw [hl], ?_, hcell 1 _ rfl, ?_⟩
  · rw [e]; simpa using hcell 0 _ rfl
  · rw [e]; exact hs _ (List.getElem_mem _)

set_option maxHeartbeats 1000000 in
theorem rget_calls (w : World) (F : Nat → Prop) (B g dn dc : Nat) (wv : Value) (s : Sl) (i : Nat) (h : IsRf w F B g dn dc wv s) (h0 : hasL s i 0 = 0) :
    Calls Tryd.prog 97 #[.pointer (some ⟨g, 0, none⟩), .int .i64 (i : Int)] w (ReadTo w (seenL s i)) := by
  have hin := hasL_in h0
  have ho : s.off = false := by
    unfold hasL at h0
    rw [if_neg (by omega), if_neg (by omega)] at h0
    cases hh : s.off with
    | false => rfl
    | true => rw [hh] at h0; simp at h0
  have c0 := h.own.get 0 rfl
  have c1 := h.own.get 1 rfl
  have c2 := h.own.get 2 rfl
  rw [ho] at c2
  have hsm := h.ok.small
  have hwsm := h.ok.wsmall
  have hk1 : ¬ ((i : Int) < 0) := by omega
  have hk2 : ¬ ((s.done.length : Int) ≤ (i : Int)) := by omega
  have hk3 : (i : Int) < (s.done.length : Int) := by omega
  obtain ⟨v0, d0, _, hs0⟩ := dLD_get h i (by omega)
  obtain ⟨aw, cw, LW, e1, hwc, hwle, hwm, _⟩ := h.way
  have hwlen : LW.length = s.way.length := by rw [← hwm]; simp
  have hwl' : (s.way.length : Int) ≤ 1000000 := by omega
  rw [e1, hwlen] at c1
  have E1 := hid (show wv = .slice aw s.way.length cw from by rw [e1, hwlen])
  have H := hid h
  have S0 := hid (show SecAt w F g dn v0 (seenK s i 0) from by
    unfold seenK; simp [List.getElem?_eq_getElem (show i < s.done.length by omega)]; exact hs0)
  clear h h0 hs0 hwc hwm hwlen e1
  go_enter Tryd.func97, Tryd.ntmps97
  go_wp2_with fail
  clear d0
  go_loopw [6, 38] (fun pv iv wr => RgRel s i w F g dn pv iv wr) (fun _ iv _ => s.way.length - (intOf iv).toNat)
  case atStart => exact ⟨0, rfl, Nat.zero_le _, S0.out, Below.refl _ _⟩
  case round =>
    obtain ⟨k, rfl, hk, hS, hb⟩ := hrel
    have Hb := hid hb
    by_cases hkn : k < s.way.length
    · have hkn' : (k : Int) < (s.way.length : Int) := by omega
      obtain ⟨b, off, c, v, e2, q0, q1, hv⟩ := dLW_get H.out k hkn
      have e3 := E1.out.symm.trans e2
      simp only [Value.slice.injEq] at e3
      obtain ⟨rfl, _, rfl⟩ := e3
      obtain ⟨bv, ofv, cv, rfl, hvr⟩ := hv
      have hv : SecAt w F g dn (.slice (some ⟨bv, ofv, none⟩) 128 cv) s.way[k].2 := ⟨bv, ofv, cv, rfl, hvr⟩
      clear hvr
      have q0 := cell_later hb q0
      have q1 := cell_later hb q1
      have Sx := hid hS
      have Vx := hid hv
      have Sc := hid (seenK_succ s i k hkn)
      clear hS hv hb e2
      generalize s.way[k] = x at q0 Vx Sc
      obtain ⟨at', p⟩ := x
      dsimp only at q0
      by_cases he : at' = i
      · subst he
        have Sn := hid (show SecAt w F g dn (.slice (some ⟨bv, ofv, none⟩) 128 cv) (seenK s at' (k + 1)) from by rw [Sc.out, if_pos rfl]; exact Vx.out)
        have Bn := hid (Hb.out.trans ((below_alloc wr (.cells #[.int .i64 (at' : Int), .slice (some ⟨bv, ofv, none⟩) 128 cv] 119)).mono Hb.out.size))
        have hbe : ((at' : Int) == (at' : Int)) = true := by simp
        go_wp2_with fail
        have R : RgRel s at' w F g dn (.slice (some ⟨bv, ofv, none⟩) 128 cv) (.int .i64 ((k : Int) + 1)) _ := ⟨k + 1, by go_num, by omega, Sn.out, Bn.out⟩
        refine ⟨?_, by simp [intOf]; omega⟩
        first | exact R | ((repeat apply Exists.intro); refine ⟨R, ?_⟩; and_intros <;> rfl)
      · have hbe : ((at' : Int) == (i : Int)) = false := by rw [beq_eq_false_iff_ne]; omega
        have Sn := hid (show SecAt w F g dn u6 (seenK s i (k + 1)) from by rw [Sc.out, if_neg he]; exact Sx.out)
        have Bn := hid (Hb.out.trans ((below_alloc wr (.cells #[.int .i64 (at' : Int), .slice (some ⟨bv, ofv, none⟩) 128 cv] 119)).mono Hb.out.size))
        have He := hid he
        clear he
        go_wp2_with fail
        have R : RgRel s i w F g dn u6 (.int .i64 ((k : Int) + 1)) _ := ⟨k + 1, by go_num, by omega, Sn.out, Bn.out⟩
        refine ⟨?_, by simp [intOf]; omega⟩
        first | exact R | ((repeat apply Exists.intro); refine ⟨R, ?_⟩; and_intros <;> rfl)
    · obtain rfl : k = s.way.length := by omega
      have hkn' : ¬ ((s.way.length : Int) < (s.way.length : Int)) := by omega
      rw [seenK_all] at hS
      obtain ⟨b, off, c, rfl, hbs, hl, _⟩ := hS
      have V := hid (And.intro hbs hl)
      clear hbs hb hl
      go_wp2_with (at_builtin; go_must (refine wpList_append_lit0 (.tmp 49) (.tmp 50) _ rfl rfl 5 info_u8 under_bytes rfl (V.out.1.below Hb.out) 128 V.out.2 rfl (by rw [V.out.2]; omega) ?_; intro v3 w3 ho hb3; have O3 := hid ho; have B3 := hid hb3; clear ho hb3))
      go_ret2
      exact ⟨_, rfl, O3.out.base Hb.out.size, Hb.out.trans (B3.out.mono Hb.out.size)⟩

theorem rget_any (w : World) (F : Nat → Prop) (B g dn dc : Nat) (wv : Value) (s : Sl) (i : Int) (h : IsRf w F B g dn dc wv s) (hi : -9223372036854775808 ≤ i ∧ i ≤ 9223372036854775807) :
    Calls Tryd.prog 97 #[.pointer (some ⟨g, 0, none⟩), .int .i64 i] w (ReadAny w (readL s i).1 (readL s i).2) := by
  by_cases h0 : hasL s i 0 = 0
  · have hin := hasL_in h0
    obtain ⟨k, rfl⟩ : ∃ k : Nat, i = k := ⟨i.toNat, by omega⟩
    rw [show readL s (k : Int) = (seenL s k, 0) from by unfold readL; rw [if_neg (by rw [h0]; simp)]; rfl]
    exact rget_calls w F B g dn dc wv s k h h0
  · rw [show readL s i = ([], hasL s i 0) from by unfold readL; rw [if_pos h0]]
    refine (rgetno_calls w F B g dn dc wv s i h hi h0).mono ?_
    rintro e w' ⟨rfl, rfl⟩
    exact ⟨_, rfl, World.ownsRow_nil _ _ _ _, Below.refl _ _⟩
end Go.Proofs.YtoapibbbooongaaDoor
