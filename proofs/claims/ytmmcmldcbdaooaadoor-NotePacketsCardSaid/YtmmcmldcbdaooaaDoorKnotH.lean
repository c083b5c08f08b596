/- The walk of the reference's reading of a knot. -/
import Derived.Test.YtmmcmldcbdaooaaDoorKnotG
namespace Go.Proofs.YtmmcmldcbdaooaaDoor
open Go.RowKit Go.Quad _root_.Quad

/-- a new empty slice -/
def IsEmptyB (B : Nat) (v : Value) (w : World) : Prop := ∃ g, v = .slice (some ⟨g, 0, none⟩) 0 0 ∧ B ≤ g ∧ w.heap[g]? = some (.cells #[] 5 (0, 0))

theorem IsEmptyB.below {B : Nat} {v : Value} {w w' : World} (h : IsEmptyB B v w) (hb : Below w.heap.size w w') : IsEmptyB B v w' := by
  obtain ⟨g, e, hg, hh⟩ := h
  exact ⟨g, e, hg, by rw [hb.block g (Array.getElem?_eq_some_iff.1 hh).1]; exact hh⟩

theorem run_append_empty {P : Program} {w : World} (t ty : TypeId) (ht : P.underlying t = some (.slice 5)) (hinf : (P.info? 5).map (fun i => (i.zero, i.size, i.bytes)) = some (some (.int .u8 0), 1, 1))
    {B : Nat} {v : Value} (hv : IsEmptyB B v w) (hB : B ≤ w.heap.size) {a : Option Addr} {c : Nat} {l : List UInt8} (h : BS w a c l) (hn : l.length ≤ 140737488355328) :
    ∃ v' w', (Builtin.append_ #[t, t] ty #[v, .slice a l.length c]).run P w = .ok v' w' ∧ OB w' B 5 v' l ∧ Below w.heap.size w w' := by
  obtain ⟨i, hi, hz0, hz1, hz2⟩ := info_parts hinf
  obtain ⟨g, rfl, hg, hh⟩ := hv
  have hgl : g < w.heap.size := (Array.getElem?_eq_some_iff.1 hh).1
  by_cases h0 : l = []
  · subst h0
    have hown : w.ownsRow B 5 1 (.slice (some ⟨g, 0, none⟩) 0 0) 0 [] := ⟨rfl, .inr ⟨g, 0, #[], rfl, hg, hh, Nat.le_refl _, by simp [maxLen], rfl, rfl⟩⟩
    cases a with
    | none =>
      have hc := h.none rfl
      subst hc
      exact ⟨_, w, run_append_owned_none (P := P) w B t ty 5 i 1 ht hi _ 0 [] hown, hown, Below.refl _ _⟩
    | some x =>
      have hr := run_append_room (P := P) w t ty 5 i ht hi g 0 0 #[] hh x 0 c [] (by simp) (by simp) (by simp) (by simp) (by simp)
      refine ⟨_, _, hr, ?_, ?_⟩
      · refine ⟨rfl, .inr ⟨g, 0, _, rfl, hg, setRow_heap w g #[] _ 5 _ hh, Nat.le_refl _, by simp [maxLen], by simp, by simp⟩⟩
      · refine ⟨rfl, rfl, rfl, by simp, fun k _ => ?_⟩
        by_cases hk : k = g
        · subst hk
          rw [setRow_heap w k #[] _ 5 _ hh, hh]
          simp
        · exact setRow_other w g k _ hk
  · have hpos : 0 < l.length := List.length_pos_iff.2 h0
    obtain ⟨b, off, rfl, hc⟩ := CS.at h (by simpa using hpos)
    have hr := run_append_grow (P := P) w t ty 5 i _ ht hi hz0 ⟨g, 0, none⟩ 0 0 [] (by simp) (by simp) ⟨b, off, none⟩ l.length c (l.map u8v) (by simp [hz1]) (fun j u hj => by
      have := hc j u hj
      unfold Addr.add
      split
      · rename_i h0; subst h0; simpa using this
      · exact this) (by omega) (by omega) (growslice_fits (by omega) (by rw [hz2]; omega))
    refine ⟨_, _, hr, ?_, ?_⟩
    · have hge := grownCap_ge w (0 + l.length) 0 5
      have hcm := grownCap_le_maxLen w (0 + l.length) 0 5 (by unfold maxLen; omega)
      simp only [Nat.zero_add] at hge hcm ⊢
      refine ⟨by simp, .inr ⟨w.heap.size, _, _, rfl, hB, heap_alloc_new w.drew _, hge, hcm, ?_, ?_⟩⟩
      · have hz : ((Value.int .u8 0).cells).size = 1 := rfl
        simp only [Array.size_append, List.size_toArray, List.length_map, List.length_nil, size_zeroCells, hz, Nat.zero_add, Nat.mul_one]
        omega
      · simp [List.take_of_length_le]
    · exact (below_drew w).trans (below_alloc w.drew _)

theorem opOk_empty {P : Program} {o : Oper} {ρ : Operand → Value} {w : World} {K : Value → World → Prop} (t : TypeId) (ho : o.op = Op.buildSlice t 0 #[]) (hr : ∀ w : World, (execOp ρ o).run P w = .ok (.value (.slice (some ⟨w.heap.size, 0, none⟩) 0 0)) (w.alloc (.cells #[] 5)))
    {B : Nat} (hB : B ≤ w.heap.size) (hK : ∀ v w', IsEmptyB B v w' → Below w.heap.size w w' → K v w') : OpOk P o ρ w K :=
  opOk_run (hr w) (hK _ _ ⟨w.heap.size, rfl, hB, heap_alloc_new w _⟩ (below_alloc w _))

theorem opOk_append_empty {P : Program} {o : Oper} {ρ : Operand → Value} {w : World} {K : Value → World → Prop} (s x : Operand) (t : TypeId)
    (ho : o.op = .call { callee := .builtin .append, args := #[s, x], argTypes := #[t, t] }) (ht : P.underlying t = some (.slice 5)) (hinf : (P.info? 5).map (fun i => (i.zero, i.size, i.bytes)) = some (some (.int .u8 0), 1, 1))
    {B : Nat} (hv : IsEmptyB B (ρ s) w) (hB : B ≤ w.heap.size) {a : Option Addr} {c : Nat} {l : List UInt8} (hx : ρ x = .slice a l.length c) (h : BS w a c l) (hn : l.length ≤ 140737488355328)
    (hK : ∀ v w', OB w' B 5 v l → Below w.heap.size w w' → K v w') : OpOk P o ρ w K := by
  obtain ⟨v', w', hr, h1, h2⟩ := run_append_empty (P := P) t o.type ht hinf hv hB h hn
  refine opOk_run (v := v') (w' := w') ?_ (hK v' w' h1 h2)
  simp only [execOp, ho, resolve, invoke, builtin, Sem.run_bind, Sem.run_pure, Result.andThen_ok, List.map_toArray, List.map_cons, List.map_nil, hx, hr]

theorem refnext_eq (l : List UInt8) (n : Nat) (h2 : 2 ≤ l.length) (hn : lenL l = n) (hl : n + 6 ≤ l.length) :
    (tieL ((l.drop 2).take n) == l.take (n + 6)) = ((l.drop (n + 2)).take 4 == tailL (crc (l.take (n + 2)))) := by
  have e1 : frontL ((l.drop 2).take n) = l.take (n + 2) := by
    match l, h2 with
    | x :: y :: r, _ =>
      have hlen : ((x :: y :: r).drop 2).take n = r.take n := rfl
      have hr : (r.take n).length = n := by rw [List.length_take]; simp at hl; omega
      unfold lenL at hn
      simp only [List.getD_cons_zero, List.getD_cons_succ] at hn
      have hx := x.toNat_lt
      have hy := y.toNat_lt
      rw [hlen]
      unfold frontL
      rw [hr]
      have ex : UInt8.ofNat n = x := by
        apply UInt8.toNat_inj.1
        rw [UInt8.toNat_ofNat', ← hn]; omega
      have ey : UInt8.ofNat (n / 256) = y := by
        apply UInt8.toNat_inj.1
        rw [UInt8.toNat_ofNat', ← hn]; omega
      rw [ex, ey]
      rfl
  have e2 : l.take (n + 6) = l.take (n + 2) ++ (l.drop (n + 2)).take 4 := by
    rw [show n + 6 = (n + 2) + 4 from by omega, List.take_add]
  unfold tieL
  rw [e1, e2]
  rw [Bool.eq_iff_iff, beq_iff_eq, beq_iff_eq, List.append_right_inj]
  exact eq_comm

set_option maxRecDepth 100000 in
set_option maxHeartbeats 1000000 in
theorem refnext_calls (a : Option Addr) (cap : Nat) (l : List UInt8) (w : World) (h : BS w a cap l) (hn : l.length ≤ 1000000) :
    Calls Tryd.prog 85 #[.slice a l.length cap] w (RetBBE w.heap.size w (nextL l)) := by
  by_cases h2 : l.length < 2
  · have e : nextL l = ([], [], 2) := by unfold nextL; rw [if_pos h2]
    rw [e]
    go_enter Tryd.func85, Tryd.ntmps85
    go_wp2_with fail
    go_ret3
    exact retNil w 2 (n := 0)
  · obtain ⟨b, off, rfl, hh⟩ := h.get (by omega)
    obtain ⟨x, hx, b0, c0⟩ := hh 0 (by omega)
    obtain ⟨y, hy, b1, c1⟩ := hh 1 (by omega)
    have i0 : 0 < l.length := by omega
    rw [Nat.add_zero] at c0
    have i1 : (1 : Int) < (l.length : Int) := by omega
    obtain ⟨n, hn0⟩ : ∃ n, lenL l = n := ⟨_, rfl⟩
    have hor : (x : Int) + 256 * (y : Int) = (n : Int) := by
      rw [← hn0]; unfold lenL; rw [hx, hy]; omega
    have hnb : (n : Int) ≤ 65535 := by rw [← hn0]; unfold lenL; rw [hx, hy]; omega
    have hm : (l.length : Int) ≤ 1000000 := by omega
    clear hh hx hy hn
    by_cases h3 : 2048 < n
    · have e : nextL l = ([], [], 3) := by unfold nextL; rw [if_neg h2, hn0, if_pos h3]
      rw [e]
      have h3' : (2048 : Int) < (n : Int) := by omega
      clear e hn0 h h3
      go_enter Tryd.func85, Tryd.ntmps85
      go_wp2_with fail
      go_quiet (fail)
      go_wp2_with fail
      go_ret3
      exact retNil w 3
    have h3' : (n : Int) ≤ 2048 := by omega
    by_cases h4 : l.length < n + 6
    · have e : nextL l = ([], [], 2) := by unfold nextL; rw [if_neg h2, hn0, if_neg h3, if_pos h4]
      rw [e]
      have h4' : (l.length : Int) < n + 6 := by omega
      clear e hn0 h h4
      go_enter Tryd.func85, Tryd.ntmps85
      go_wp2_with fail
      go_quiet (fail)
      go_wp2_with fail
      go_ret3
      exact retNil w 2
    have h4' : (n : Int) + 6 ≤ (l.length : Int) := by omega
    have hcap := h.fit'
    have hcap' : (n : Int) + 6 ≤ (cap : Int) := by omega
    have Heq := hid (refnext_eq l n (by omega) hn0 (by omega))
    have Hn0 := hid hn0
    have Hh := hid h
    clear hn0 h h4
    go_enter Tryd.func85, Tryd.ntmps85
    go_wp2_with fail
    go_quiet (fail)
    clear c0 c1
    have HhN := hid (Hh.out.below (below_drewN (Below.refl _ w) nq))
    go_wp2_with (refine wpList_cut _ (.tmp 29) (some (.const (.int .i64 2))) (some (.tmp 31)) rfl rfl 5 info_u8 under_bytes rfl HhN.out 2 (n + 2) (.inl rfl) (.inl rfl) (by omega) (by omega) ?_; intro a8 hs8; rw [Nat.add_sub_cancel]; have HS8 := hid (hs8.take n); clear hs8)
    have hlen8 : ((l.drop 2).take n).length = n := by rw [List.length_take, List.length_drop]; omega
    have Hlen8 := hid hlen8
    have rt := reftie_calls a8 _ _ _ HS8.out (by rw [hlen8]; omega)
    rw [hlen8] at rt
    refine rt.mono ?_
    rintro e w1 ⟨v1, rfl, ho1, hb1⟩
    clear rt
    obtain ⟨a1, c1, e1, hs1, _⟩ := ho1.bs
    rw [tieL_length, hlen8] at e1
    subst e1
    have Hs1 := hid hs1
    have Hb1 := hid (show Below w.heap.size w w1 from (below_drewN (Below.refl _ w) nq).trans hb1)
    clear ho1 hs1 hb1 hlen8
    go_wp2_with fail
    have hlen6 : (l.take (n + 6)).length = n + 6 := by rw [List.length_take]; omega
    have sm := same_calls a1 (some ⟨b, off, none⟩) c1 cap _ _ w1 Hs1.out ((Hh.out.below Hb1.out).take (n + 6))
    rw [tieL_length, Hlen8.out, hlen6, Heq.out] at sm
    refine sm.mono ?_
    rintro e w' ⟨rfl, rfl⟩
    clear sm hlen6
    by_cases h5 : ((l.drop (n + 2)).take 4 == tailL (crc (l.take (n + 2)))) = true
    · have e : nextL l = ((l.drop 2).take n, l.drop (n + 6), 0) := by unfold nextL; rw [if_neg h2, Hn0.out, if_neg h3, if_neg (by omega), if_pos h5]
      have He := hid e
      rw [h5]
      clear e h5
      go_wp2_with fail
      refine wp_region_below (fun i v w' => match i with
        | 0 => IsEmptyB w.heap.size v w'
        | 1 => v = .slice (some ⟨b, off, none⟩) l.length cap
        | 2 => v = .int .i64 (n : Int)
        | 3 => v = .int .i64 ((n : Int) + 2)
        | 4 => IsCut l 2 (n + 2) v w'
        | 5 => OB w' w.heap.size 5 v ((l.drop 2).take n)
        | 6 => IsEmptyB w.heap.size v w'
        | 7 => v = .slice (some ⟨b, off, none⟩) l.length cap
        | 8 => v = .int .i64 (n : Int)
        | 9 => v = .int .i64 ((n : Int) + 6)
        | 10 => IsCut l (n + 6) l.length v w'
        | 11 => OB w' w.heap.size 5 v (l.drop (n + 6))
        | 12 => OB w' w.heap.size 5 v ((l.drop 2).take n)
        | 13 => OB w' w.heap.size 5 v (l.drop (n + 6))
        | _ => v = .int .i64 0) (by kernel_rfl) (by kernel_rfl) ?_ ?_ ?_
      · intro j v w1 w2 hR hb
        match j, hR with
        | 1, hR | 2, hR | 3, hR | 7, hR | 8, hR | 9, hR | _ + 14, hR => exact hR
        | 5, hR | 11, hR | 12, hR | 13, hR => exact OB.below hR hb
        | 0, hR | 6, hR => exact IsEmptyB.below hR hb
        | 4, ⟨a', c', e, hs⟩ | 10, ⟨a', c', e, hs⟩ => exact ⟨a', c', e, hs.below hb⟩
      · refine ⟨?_, ?_, ?_, ?_, ?_, ?_, ?_, ?_, ?_, ?_, ?_, ?_, ?_, ?_, ?_, trivial⟩
        all_goals intro ρ w2 hE hc hg hf
        all_goals have hE' := Hb1.out.trans (hE.mono Hb1.out.size)
        · dsimp only [GuF, InF, Op.operands]
          exact opOk_empty _ rfl (fun w => by go_simp) hE'.size fun v w' h1 h2 => ⟨h2, h1⟩
        · intro h0; exact opOk_move _ rfl ⟨Below.refl _ _, h0⟩
        · intro h0; exact opOk_move _ rfl ⟨Below.refl _ _, h0⟩
        · intro (h0 : ρ (.tmp 45) = .int .i64 (n : Int))
          refine opOk_run (v := .int .i64 ((n : Int) + 2)) (w' := w2) ?_ ⟨Below.refl _ _, rfl⟩
          go_simp
          go_bits
          all_goals trivial
        · intro h0 h1
          refine opOk_cut _ _ _ _ rfl under_bytes info_u8 h0 (Hh.out.below hE') 2 (n + 2) ?_ ?_ (by omega) (by omega) fun v hv => ⟨Below.refl _ _, hv⟩
          · left; rw [Option.map_some, hc]; rfl
          · left; rw [Option.map_some, h1]; rfl
        · intro h0 ⟨a', c', e', hs⟩
          refine opOk_append_empty _ _ _ rfl under_bytes info_u8 h0 hE'.size e' hs (by rw [List.length_take, List.length_drop]; omega) fun v w' h1 h2 => ⟨h2, ?_⟩
          rwa [Nat.add_sub_cancel] at h1
        · dsimp only [GuF, InF, Op.operands]
          exact opOk_empty _ rfl (fun w => by go_simp) hE'.size fun v w' h1 h2 => ⟨h2, h1⟩
        · intro h0; exact opOk_move _ rfl ⟨Below.refl _ _, h0⟩
        · intro h0; exact opOk_move _ rfl ⟨Below.refl _ _, h0⟩
        · intro (h0 : ρ (.tmp 51) = .int .i64 (n : Int))
          refine opOk_run (v := .int .i64 ((n : Int) + 6)) (w' := w2) ?_ ⟨Below.refl _ _, rfl⟩
          go_simp
          go_bits
          all_goals trivial
        · intro h0 h1
          refine opOk_cut _ _ _ _ rfl under_bytes info_u8 h0 (Hh.out.below hE') (n + 6) l.length ?_ ?_ (by omega) (by omega) fun v hv => ⟨Below.refl _ _, hv⟩
          · left; rw [Option.map_some, h1]; rfl
          · right; exact ⟨rfl, rfl⟩
        · intro h0 ⟨a', c', e', hs⟩
          refine opOk_append_empty _ _ _ rfl under_bytes info_u8 h0 hE'.size e' hs (by rw [List.length_take, List.length_drop]; omega) fun v w' h1 h2 => ⟨h2, ?_⟩
          rwa [List.take_of_length_le (by rw [List.length_drop]; omega)] at h1
        · intro h0; exact opOk_assign _ rfl ⟨Below.refl _ _, h0⟩
        · intro h0; exact opOk_assign _ rfl ⟨Below.refl _ _, h0⟩
        · dsimp only [GuF, InF, Op.operands]
          refine opOk_assign (.const (.int .i64 0)) rfl ?_
          exact ⟨Below.refl _ _, hc _⟩
      · intro w2 hb2
        rintro v0 h0 _ rfl _ rfl _ rfl v4 h4 v5 h5 v6 h6 _ rfl _ rfl _ rfl v10 h10 v11 h11 v12 h12 v13 h13 _ rfl
        clear h0 h4 h5 h6 h10 h11
        simp only [PutAll, Act.put, List.setIfInBounds_toArray, List.set_cons_succ, List.set_cons_zero]
        go_wp2_with fail
        go_ret3
        rw [He.out]
        exact ⟨_, _, rfl, h12, h13, Hb1.out.trans (hb2.mono Hb1.out.size)⟩
    · have e : nextL l = ([], [], 5) := by unfold nextL; rw [if_neg h2, Hn0.out, if_neg h3, if_neg (by omega), if_neg h5]
      have He := hid e
      rw [Bool.eq_false_iff.2 h5]
      clear e h5
      go_wp2_with fail
      go_ret3
      rw [He.out]
      exact ⟨_, _, rfl, World.ownsRow_nil _ _ _ _, World.ownsRow_nil _ _ _ _, Hb1.out⟩
end Go.Proofs.YtmmcmldcbdaooaaDoor
