/- The walks of layer 6: the document's block as bytes. -/
import Derived.Test.YtoapibbbooongaaDoorBlkC
import Derived.Test.YtoapibbbooongaaDoorBlkF
import Derived.Test.YtoapibbbooongaaDoorRfA
import Derived.Test.YtoapibbbooongaaDoorZeros
import Derived.Deep.CutRange
import Derived.Deep.RegionLaw
namespace Go.Quad
open Go.RowKit
/-- an operation of a region whose order is open, by what is shown of it -/
theorem step_ok {P : Program} {ops : Array Oper} {o : Oper} {a : Act} {w : World} {K : Act → World → Prop} {Q : Exit → Act → World → Prop} {E : Prop}
    (hg : o.guard = none) (h : OpOk P o a.eval w fun v w' => K (a.put o.dst v) w') : if Region.wanted o (yielded ops a.tmps) = true then Oper.wp P o a w K Q else E := by
  have hw : Region.wanted o (yielded ops a.tmps) = true := by simp [Region.wanted, hg]
  rw [if_pos hw]
  unfold Oper.wp
  unfold OpOk at h
  split at h
  · rename_i v w' e; rw [e]; exact h
  · rename_i w' e; rw [e]; exact h
  · rename_i f args w' e
    rw [e, Oper.upon_enter]
    refine h.mono ?_
    rintro e w'' ⟨v, rfl, hk⟩
    exact hk
  · exact h.elim
end Go.Quad
namespace Go.Proofs.YtoapibbbooongaaDoor
open Go.RowKit Go.Quad _root_.Quad _root_.Quad.Slab

set_option maxHeartbeats 1000000 in
theorem four_calls (v : Nat) (w : World) (hv : v < 4294967296) : Calls Tryd.prog 129 #[.int .u32 (v : Int)] w (RetB w.heap.size w (le4 v)) := by
  have hv' : (v : Int) ≤ 4294967295 := by omega
  have hl := OB.lit (w := w) 5 (le4 v) (Nat.le_refl _) (by simp [le4, maxLen])
  rw [← fourV_le4 v hv] at hl
  have HL := hid hl
  have hb := hid (below_alloc w (.cells (fourV v).toArray 5))
  clear hl
  go_enter Tryd.func129, Tryd.ntmps129
  go_wp2_with fail
  go_ret
  refine ⟨.slice (some ⟨w.heap.size, 0, none⟩) 4 4, rfl, ?_⟩
  have e : (fourV v).toArray = #[.int .u8 ((v : Int) % 256), .int .u8 ((v : Int) / 256 % 256), .int .u8 ((v : Int) / 65536 % 256), .int .u8 ((v : Int) / 16777216)] := rfl
  rw [e] at HL hb
  first | exact ⟨HL.out, hb.out⟩ | trace_state

theorem add_four (p : List UInt8) (i : Nat) (h : i + 4 ≤ p.length) : get4 p i = (p.getD i 0).toNat + 256 * (p.getD (i + 1) 0).toNat + 65536 * (p.getD (i + 2) 0).toNat + 16777216 * (p.getD (i + 3) 0).toNat := by
  unfold get4
  rw [get4L_get (p.drop i) (by rw [List.length_drop]; omega)]
  simp only [List.getElem_drop, Nat.add_zero]
  simp only [List.getD_eq_getElem?_getD]
  rw [List.getElem?_eq_getElem (show i < p.length by omega), List.getElem?_eq_getElem (show i + 1 < p.length by omega), List.getElem?_eq_getElem (show i + 2 < p.length by omega), List.getElem?_eq_getElem (show i + 3 < p.length by omega)]
  rfl

set_option maxHeartbeats 1000000 in
theorem at2_calls (b c : Nat) (p : List UInt8) (w : World) (h : BS w (some ⟨b, 0, none⟩) c p) (hp : p.length = 128) :
    Calls Tryd.prog 131 #[.agg #[.slice (some ⟨b, 0, none⟩) 128 c], .int .i64 2] w fun e w' => e = .returned (.int .u32 (get4 p 2 : Int)) ∧ Below w.heap.size w w' := by
  have hadd := add_four p 2 (by omega)
  have h := h.below (below_alloc w (.cells #[.slice (some ⟨b, 0, none⟩) 128 c] 216))
  have c0 := bs_cell h 2 (by omega)
  have c1 := bs_cell h 3 (by omega)
  have c2 := bs_cell h 4 (by omega)
  have c3 := bs_cell h 5 (by omega)
  have b0 := (p.getD 2 0).toNat_lt; have b1 := (p.getD 3 0).toNat_lt; have b2 := (p.getD 4 0).toNat_lt; have b3 := (p.getD 5 0).toNat_lt
  generalize (p.getD 2 0).toNat = x0 at hadd c0 b0
  have hadd : get4 p 2 = x0 + 256 * (p.getD 3 0).toNat + 65536 * (p.getD 4 0).toNat + 16777216 * (p.getD 5 0).toNat := hadd
  generalize (p.getD 3 0).toNat = x1 at hadd c1 b1
  generalize (p.getD 4 0).toNat = x2 at hadd c2 b2
  generalize (p.getD 5 0).toNat = x3 at hadd c3 b3
  have b0' : (x0 : Int) ≤ 255 := by omega
  have b1' : (x1 : Int) ≤ 255 := by omega
  have b2' : (x2 : Int) ≤ 255 := by omega
  have b3' : (x3 : Int) ≤ 255 := by omega
  have HA := hid hadd
  clear hadd h hp b0 b1 b2 b3
  go_enter Tryd.func131, Tryd.ntmps131
  go_wp2_with fail
  go_quiet (fail)
  go_wp2_with fail
  go_ret
  refine ⟨?_, below_drewN (below_alloc _ _) _⟩
  rw [HA.out]
  first | rfl | (congr 2; push_cast; omega) | trace_state

set_option maxHeartbeats 1000000 in
theorem at6_calls (b c : Nat) (p : List UInt8) (w : World) (h : BS w (some ⟨b, 0, none⟩) c p) (hp : p.length = 128) :
    Calls Tryd.prog 131 #[.agg #[.slice (some ⟨b, 0, none⟩) 128 c], .int .i64 6] w fun e w' => e = .returned (.int .u32 (get4 p 6 : Int)) ∧ Below w.heap.size w w' := by
  have hadd := add_four p 6 (by omega)
  have h := h.below (below_alloc w (.cells #[.slice (some ⟨b, 0, none⟩) 128 c] 216))
  have c0 := bs_cell h 6 (by omega)
  have c1 := bs_cell h 7 (by omega)
  have c2 := bs_cell h 8 (by omega)
  have c3 := bs_cell h 9 (by omega)
  have b0 := (p.getD 6 0).toNat_lt; have b1 := (p.getD 7 0).toNat_lt; have b2 := (p.getD 8 0).toNat_lt; have b3 := (p.getD 9 0).toNat_lt
  generalize (p.getD 6 0).toNat = x0 at hadd c0 b0
  have hadd : get4 p 6 = x0 + 256 * (p.getD 7 0).toNat + 65536 * (p.getD 8 0).toNat + 16777216 * (p.getD 9 0).toNat := hadd
  generalize (p.getD 7 0).toNat = x1 at hadd c1 b1
  generalize (p.getD 8 0).toNat = x2 at hadd c2 b2
  generalize (p.getD 9 0).toNat = x3 at hadd c3 b3
  have b0' : (x0 : Int) ≤ 255 := by omega
  have b1' : (x1 : Int) ≤ 255 := by omega
  have b2' : (x2 : Int) ≤ 255 := by omega
  have b3' : (x3 : Int) ≤ 255 := by omega
  have HA := hid hadd
  clear hadd h hp b0 b1 b2 b3
  go_enter Tryd.func131, Tryd.ntmps131
  go_wp2_with fail
  go_quiet (fail)
  go_wp2_with fail
  go_ret
  refine ⟨?_, below_drewN (below_alloc _ _) _⟩
  rw [HA.out]
  first | rfl | (congr 2; push_cast; omega) | trace_state

set_option maxHeartbeats 1000000 in
theorem at10_calls (b c : Nat) (p : List UInt8) (w : World) (h : BS w (some ⟨b, 0, none⟩) c p) (hp : p.length = 128) :
    Calls Tryd.prog 131 #[.agg #[.slice (some ⟨b, 0, none⟩) 128 c], .int .i64 10] w fun e w' => e = .returned (.int .u32 (get4 p 10 : Int)) ∧ Below w.heap.size w w' := by
  have hadd := add_four p 10 (by omega)
  have h := h.below (below_alloc w (.cells #[.slice (some ⟨b, 0, none⟩) 128 c] 216))
  have c0 := bs_cell h 10 (by omega)
  have c1 := bs_cell h 11 (by omega)
  have c2 := bs_cell h 12 (by omega)
  have c3 := bs_cell h 13 (by omega)
  have b0 := (p.getD 10 0).toNat_lt; have b1 := (p.getD 11 0).toNat_lt; have b2 := (p.getD 12 0).toNat_lt; have b3 := (p.getD 13 0).toNat_lt
  generalize (p.getD 10 0).toNat = x0 at hadd c0 b0
  have hadd : get4 p 10 = x0 + 256 * (p.getD 11 0).toNat + 65536 * (p.getD 12 0).toNat + 16777216 * (p.getD 13 0).toNat := hadd
  generalize (p.getD 11 0).toNat = x1 at hadd c1 b1
  generalize (p.getD 12 0).toNat = x2 at hadd c2 b2
  generalize (p.getD 13 0).toNat = x3 at hadd c3 b3
  have b0' : (x0 : Int) ≤ 255 := by omega
  have b1' : (x1 : Int) ≤ 255 := by omega
  have b2' : (x2 : Int) ≤ 255 := by omega
  have b3' : (x3 : Int) ≤ 255 := by omega
  have HA := hid hadd
  clear hadd h hp b0 b1 b2 b3
  go_enter Tryd.func131, Tryd.ntmps131
  go_wp2_with fail
  go_quiet (fail)
  go_wp2_with fail
  go_ret
  refine ⟨?_, below_drewN (below_alloc _ _) _⟩
  rw [HA.out]
  first | rfl | (congr 2; push_cast; omega) | trace_state

theorem run_u32_at (w : World) (g i : Nat) (v : Value) (h : w.cell? ⟨g, i, none⟩ = some v) : (Instr.loadAt 31 (.pointer (some ⟨g, i, none⟩))).run Tryd.prog w = .ok v w := by go_simp
def pre2 (x : BlkD) : List UInt8 := [UInt8.ofNat x.kind, UInt8.ofNat x.data.length]
theorem lit2 (w : World) (x : BlkD) (n base : Nat) (hk : x.kind < 256) (hn : x.data.length = n) (hl : n < 256) (hb : base ≤ w.heap.size) : OB (w.alloc (.cells #[.int .u8 (x.kind : Int), .int .u8 (n : Int)] 5)) base 5 (.slice (some ⟨w.heap.size, 0, none⟩) 2 2) (pre2 x) := by
  have h := OB.lit (w := w) (base := base) 5 (pre2 x) hb (by simp [pre2, maxLen])
  unfold pre2 at h ⊢
  simp only [List.map_cons, List.map_nil] at h
  rw [u8v_of' _ hk, u8v_of' _ (by omega), hn] at h
  rw [hn]
  exact h
theorem grown_own {w w' : World} {B : Nat} {v : Value} {l : List UInt8} (h : OB w B 5 v l) (hb : B ≤ w.heap.size) (hg : w.grownBy w' v.ownBlock) : Below B w w' := grownBy_below hg hb h.ownBlock

def BtMid (x : BlkD) (da : Option Addr) (dn dc : Nat) (w : World) (z : Nat) (v : Value) (w' : World) : Prop :=
  OB w' (z + 1) 5 v (headB x) ∧ Blk w' z [.int .u8 (x.kind : Int), .int .u32 (x.epoch : Int), .int .u32 (x.a : Int), .int .u32 (x.b : Int), .slice da dn dc] 167 ∧ Below z w w'
set_option maxRecDepth 100000 in
set_option maxHeartbeats 4000000 in
theorem bytes_calls (da : Option Addr) (dn dc : Nat) (x : BlkD) (w : World) (hx : x.Ok) (hd : BS w da dc x.data) (hn : x.data.length = dn) (hl : dn ≤ 104) :
    Calls Tryd.prog 118 #[.agg #[.int .u8 (x.kind : Int), .int .u32 (x.epoch : Int), .int .u32 (x.a : Int), .int .u32 (x.b : Int), .slice da dn dc]] w (RetB w.heap.size w (encB x)) := by
  have H1 := hid (below_alloc w (.cells #[.int .u8 (x.kind : Int), .int .u32 (x.epoch : Int), .int .u32 (x.a : Int), .int .u32 (x.b : Int), .slice da dn dc] 167))
  obtain ⟨z, hz⟩ : ∃ z, w.heap.size = z := ⟨_, rfl⟩
  have ZB := hid (show Blk (w.alloc (.cells #[.int .u8 (x.kind : Int), .int .u32 (x.epoch : Int), .int .u32 (x.a : Int), .int .u32 (x.b : Int), .slice da dn dc] 167)) z [.int .u8 (x.kind : Int), .int .u32 (x.epoch : Int), .int .u32 (x.a : Int), .int .u32 (x.b : Int), .slice da dn dc] 167 from by rw [← hz]; exact blk_alloc w _ _)
  have HD0 := hid hd
  have HD := hid (hd.below H1.out)
  have HN := hid hn
  have hl' : (dn : Int) ≤ 104 := by omega
  have Hz := hid hz
  clear hd hn
  go_enter Tryd.func118, Tryd.ntmps118
  go_wp2_with fail
  clear hz
  have hs1 : z + 1 ≤ (w.alloc (.cells #[.int .u8 (x.kind : Int), .int .u32 (x.epoch : Int), .int .u32 (x.a : Int), .int .u32 (x.b : Int), .slice da dn dc] 167)).heap.size := by rw [← Hz.out]; simp
  generalize (w.alloc (.cells #[.int .u8 (x.kind : Int), .int .u32 (x.epoch : Int), .int .u32 (x.a : Int), .int .u32 (x.b : Int), .slice da dn dc] 167)) = w1 at H1 ZB HD hs1 ⊢
  have c0 := ZB.out.get 0 rfl
  have c1 := ZB.out.get 1 rfl
  have c4 := ZB.out.get 4 rfl
  have kk : (x.kind : Int) ≤ 255 := by have := hx.kind; omega
  have zl := ZB.out.lt
  have Sz := hid (show z ≤ w1.heap.size from by omega)
  have H1z := hid (show Below z w w1 from by rw [← Hz.out]; exact H1.out)
  clear H1
  refine wp_region_new 14 10 [6, 9] (fun idx v w' => match idx with
    | 0 => v = .pointer (some ⟨z, 0, none⟩)
    | 1 => v = .int .u8 (x.kind : Int)
    | 2 => v = .pointer (some ⟨z, 4, none⟩)
    | 3 => v = .slice da dn dc
    | 4 => v = .int .i64 (dn : Int)
    | 5 => v = .int .u8 (dn : Int)
    | 6 => OB w' w1.heap.size 5 v (pre2 x)
    | 7 => v = .pointer (some ⟨z, 1, none⟩)
    | 8 => v = .int .u32 (x.epoch : Int)
    | 9 => OB w' w1.heap.size 5 v (le4 x.epoch)
    | 10 => OB w' w1.heap.size 5 v (pre2 x ++ le4 x.epoch)
    | _ => True) (by kernel_rfl) (by kernel_rfl) (by kernel_rfl) (by kernel_rfl) ?_ ?_ ?_ ?_
  · intro j v wx wy hR hb
    match j, hR with
    | 0, hR | 1, hR | 2, hR | 3, hR | 4, hR | 5, hR | 7, hR | 8, hR => exact hR
    | 6, hR => exact OB.below hR hb
    | 9, hR => exact OB.below hR hb
    | 10, hR => exact OB.below hR hb
    | _ + 11, _ => trivial
  · intro j v wx wy hne hcon hR hb
    match j, hR with
    | 0, hR | 1, hR | 2, hR | 3, hR | 4, hR | 5, hR | 7, hR | 8, hR => exact hR
    | 6, _ => exact absurd hcon (by decide)
    | 9, _ => exact absurd hcon (by decide)
    | 10, _ => exact (hne rfl).elim
    | _ + 11, _ => trivial
  · refine ⟨?_, ?_, ?_, ?_, ?_, ?_, ?_, ?_, ?_, ?_, ?_, trivial⟩
    all_goals intro ρ wx hE hc hg hf
    · intro (h0 : ρ (.tmp 1) = .pointer (some ⟨z, 0, none⟩))
      exact opOk_run (v := .pointer (some ⟨z, 0, none⟩)) (w' := wx) (by go_simp) ⟨Below.refl _ _, rfl⟩
    · intro (h0 : ρ (.tmp 4) = .pointer (some ⟨z, 0, none⟩))
      have hE : Since w1.heap.size w1.drew wx := hE
      have c := ((ZB.out.below (below_drew _)).belowAt (hE.2 (Nat.le_refl _)) ZB.out.lt).get 0 rfl
      exact opOk_load _ _ rfl _ _ h0 (run_u8_at _ _ _ _ c) ⟨Below.refl _ _, rfl⟩
    · intro (h0 : ρ (.tmp 1) = .pointer (some ⟨z, 0, none⟩))
      exact opOk_run (v := .pointer (some ⟨z, 4, none⟩)) (w' := wx) (by go_simp) ⟨Below.refl _ _, rfl⟩
    · intro (h0 : ρ (.tmp 6) = .pointer (some ⟨z, 4, none⟩))
      have hE : Since w1.heap.size w1.drew wx := hE
      have c := ((ZB.out.below (below_drew _)).belowAt (hE.2 (Nat.le_refl _)) ZB.out.lt).get 4 rfl
      exact opOk_load _ _ rfl _ _ h0 (run_bytes_at' _ _ _ _ c) ⟨Below.refl _ _, rfl⟩
    · intro (h0 : ρ (.tmp 7) = .slice da dn dc)
      exact opOk_run (v := .int .i64 (dn : Int)) (w' := wx) (by go_simp) ⟨Below.refl _ _, rfl⟩
    · intro (h0 : ρ (.tmp 8) = .int .i64 (dn : Int))
      have hw8 := IntWalk.u8_in (dn : Int) (by omega)
      exact opOk_run (v := .int .u8 (dn : Int)) (w' := wx) (by go_simp) ⟨Below.refl _ _, rfl⟩
    · intro (h0 : ρ (.tmp 5) = .int .u8 (x.kind : Int)) (h1 : ρ (.tmp 9) = .int .u8 (dn : Int))
      have hE : Since w1.heap.size w1.drew wx := hE
      exact opOk_run (v := .slice (some ⟨wx.heap.size, 0, none⟩) 2 2) (w' := wx.alloc (.cells #[.int .u8 (x.kind : Int), .int .u8 (dn : Int)] 5)) (by go_simp) ⟨below_alloc wx _, lit2 wx x dn _ hx.kind HN.out (by omega) hE.1⟩
    · intro (h0 : ρ (.tmp 1) = .pointer (some ⟨z, 0, none⟩))
      exact opOk_run (v := .pointer (some ⟨z, 1, none⟩)) (w' := wx) (by go_simp) ⟨Below.refl _ _, rfl⟩
    · intro (h0 : ρ (.tmp 11) = .pointer (some ⟨z, 1, none⟩))
      have hE : Since w1.heap.size w1.drew wx := hE
      have c := ((ZB.out.below (below_drew _)).belowAt (hE.2 (Nat.le_refl _)) ZB.out.lt).get 1 rfl
      exact opOk_load _ _ rfl _ _ h0 (run_u32_at _ _ _ _ c) ⟨Below.refl _ _, rfl⟩
    · intro (h0 : ρ (.tmp 12) = .int .u32 (x.epoch : Int))
      have hE : Since w1.heap.size w1.drew wx := hE
      refine opOk_call (f := 129) (args := #[.int .u32 (x.epoch : Int)]) (by go_simp) ?_
      refine (four_calls x.epoch _ hx.epoch).mono ?_
      rintro e w5 ⟨v5, rfl, ho5, hb5⟩
      exact ⟨v5, rfl, hb5, ho5.base hE.1⟩
    · intro h0 h1
      have hE : Below w1.drew.heap.size w1.drew wx := hE
      obtain ⟨a5, c5, e5, hbs5, _⟩ := OB.bs h1
      refine opOk_append_b _ _ _ rfl w1.heap.size 5 info_u8 under_bytes _ _ h0 rfl hbs5 rfl e5 (by simp [pre2, le4]) hE.size fun v' w' h2 h3 => ⟨⟨h3.size, fun _ => h3⟩, h2⟩
  · intro wz hE
    rintro _ rfl _ rfl _ rfl _ rfl _ rfl _ rfl _ _ _ rfl _ rfl _ _ v6 h6
    simp only [PutLast, Act.put, List.setIfInBounds_toArray, List.set_cons_succ, List.set_cons_zero]
    refine opOk_assignV (.tmp 14) v6 rfl rfl ?_
    have Z6 := hid (ZB.out.below hE)
    have B6 := hid (H1z.out.trans (hE.mono (by omega)))
    have O6 := hid (OB.base h6 hs1)
    have D6 := hid (HD.out.below hE)
    clear h6 hE c0 c1 c4
    obtain ⟨a6, n6, c6, e6, hl6, hb6, hof6⟩ := ob_n O6.out
    subst e6
    have L6 := hid hl6
    clear hb6 hof6 hl6
    have S6 := hid (show z + 1 ≤ wz.heap.size from Z6.out.lt)
    clear hs1 zl ZB H1z HD
    generalize wz = w6 at Z6 B6 O6 D6 S6 ⊢
    have q2 := Z6.out.get 2 rfl
    have q3 := Z6.out.get 3 rfl
    go_upto_region 2 with fail
    go_cut [3] from 15 to 23 (fun v w' => BtMid x da dn dc w z v w')
    case first =>
      go_region_law (first
        | (refine step_ok rfl ?_; refine opOk_append_b (.tmp 15) (.tmp 18) _ rfl (z + 1) 5 info_u8 under_bytes _ _ ((O6.out.below (below_drew _)).below O7.out.2) rfl O7.out.1 L7.out rfl (by have := L7.out; simp [pre2, le4] at this ⊢; omega) (Nat.le_trans S6.out O7.out.2.size) ?_; intro v8 w8 ho8 hb8; obtain ⟨a8, n8, c8, rfl, hl8, _, _⟩ := ob_n ho8; have L8 := hid hl8; clear hl8; have O8 := hid (And.intro ho8 hb8); have S8 := hid (Nat.le_trans (Nat.le_trans S6.out O7.out.2.size) hb8.size); have r3 := (((Z6.out.below (below_drew _)).below O7.out.2).belowAt hb8 (by omega)).get 3 rfl; clear ho8 hb8)
        | (refine step_ok rfl ?_; refine opOk_append_b (.tmp 19) (.tmp 22) _ rfl (z + 1) 5 info_u8 under_bytes _ _ (O8.out.1.below O9.out.2) rfl O9.out.1 L9.out rfl (by have := L9.out; simp [pre2, le4] at this ⊢; omega) (Nat.le_trans S8.out O9.out.2.size) ?_; intro v10 w10 ho10 hb10; obtain ⟨a10, n10, c10, rfl, hl10, _, _⟩ := ob_n ho10; have L10 := hid hl10; clear hl10; have O10 := hid (And.intro ho10 hb10); clear ho10 hb10)
        | (refine step_ok rfl ?_; refine opOk_call (f := 129) (args := #[.int .u32 (x.a : Int)]) ?_ ?_; (focus (go_simp; done)); refine (four_calls x.a _ hx.a).mono ?_; rintro e w7 ⟨v7, rfl, ho7, hb7⟩; refine ⟨v7, rfl, ?_⟩; obtain ⟨a7, n7, c7, rfl, hl7, hbs7, _⟩ := ob_n ho7; have L7 := hid hl7; clear hl7; have O7 := hid (And.intro hbs7 hb7); have r3 := ((Z6.out.below (below_drew _)).below hb7).get 3 rfl; clear ho7 hbs7 hb7)
        | (refine step_ok rfl ?_; refine opOk_call (f := 129) (args := #[.int .u32 (x.b : Int)]) ?_ ?_; (focus (go_simp; done)); refine (four_calls x.b _ hx.b).mono ?_; rintro e w9 ⟨v9, rfl, ho9, hb9⟩; refine ⟨v9, rfl, ?_⟩; obtain ⟨a9, n9, c9, rfl, hl9, hbs9, _⟩ := ob_n ho9; have L9 := hid hl9; clear hl9; have O9 := hid (And.intro hbs9 hb9); clear ho9 hbs9 hb9))
      all_goals
        have R : BtMid x da dn dc w z (.slice a10 n10 c10) w10 := by
          have b1 := (below_drew w6).trans (O7.out.2.mono (by simp))
          have b2 := O8.out.2
          have b3 := O9.out.2
          have b4 := O10.out.2
          have b34 : Below (z + 1) w7 w10 := (b2.trans (b3.mono S8.out)).trans b4
          refine ⟨?_, ?_, ?_⟩
          · have := O10.out.1
            simp only [List.append_assoc] at this
            exact this
          · exact (Z6.out.below b1).belowAt b34 (by omega)
          · exact (B6.out.trans (b1.mono (Nat.le_of_succ_le S6.out))).trans (b34.mono (Nat.le_succ z))
        have HR := hid R
        clear R
        go_wp2_with fail
        go_meet
        exact HR.out
    case rest =>
      obtain ⟨hO, hZ, hB⟩ := hcut
      have hDc := HD0.out.below (show Below w.heap.size w wc from by rw [Hz.out]; exact hB)
      obtain ⟨a3, n3, c3, e3, hl3, _, _⟩ := ob_n hO
      subst e3
      have OH := hid hO
      have ZH := hid hZ
      have BH := hid hB
      have DH := hid hDc
      have LH := hid (show n3 = 14 from by rw [← hl3]; rfl)
      have S3 := hid (show z + 1 ≤ wc.heap.size from hZ.lt)
      have r4 := hZ.get 4 rfl
      clear hO hZ hB hDc hl3
      go_upto_region 4 with (at_builtin; refine wpList_append_b (.tmp 24) (.tmp 26) _ rfl rfl (z + 1) 5 info_u8 under_bytes _ _ OH.out rfl DH.out (by rw [HN.out]; rfl) (by have := HN.out; simp [headB_length]; omega) S3.out ?_; intro v4 w4 ho4 hg4 hb4 _; obtain ⟨a4, n4, c4, e4, hl4, _, _⟩ := ob_n ho4; subst e4; have O4 := hid ho4; have B4 := hid hb4; have L4 := hid (show n4 = 14 + dn from by rw [← hl4, List.length_append, HN.out]; rfl); clear ho4 hg4 hb4 hl4)
      have S4 := hid (Nat.le_trans S3.out B4.out.size)
      have n4' : (n4 : Int) = 14 + (dn : Int) := by have := L4.out; omega
      have N4 := hid n4'
      have n4b : (n4 : Int) ≤ 118 := by omega
      clear n4'
      go_upto_region 5 with (at_builtin; refine wpList_append_zeros_b (.tmp 28) (.tmp 31) 33 3 rfl rfl (z + 1) 5 .i64 info_u8 under_bytes (by kernel_rfl) _ _ O4.out rfl (110 - dn) (show _ = Value.int .i64 (((110 - dn : Nat)) : Int) from congrArg (Value.int .i64) (by have := N4.out; omega)) (by have := HN.out; simp [headB_length]; omega) S4.out ?_; intro v6 w6 ho6 hg6 hx6; have B6 := hid (grown_own O4.out S4.out hg6); rw [show (headB x ++ x.data) ++ List.replicate (110 - dn) (0 : UInt8) = bodyB x from by unfold bodyB; rw [List.append_assoc, HN.out]] at ho6; obtain ⟨a6, n6, c6, e6, hl6, hb6, _⟩ := ob_n ho6; subst e6; have O6 := hid ho6; have P6 := hid hb6; have L6 := hid (show n6 = 124 from by rw [← hl6]; exact bodyB_length (by rw [HN.out]; omega)); clear ho6 hg6 hx6 hl6 hb6)
      have S6 := hid (Nat.le_trans S4.out B6.out.size)
      obtain rfl : n6 = 124 := L6.out
      have LB := hid (bodyB_length (x := x) (by rw [HN.out]; omega))
      have hsum := refsum_calls a6 c6 (bodyB x) w6 P6.out (by rw [LB.out]; omega)
      rw [LB.out] at hsum
      have HS := hid hsum
      clear hsum
      go_wp2_with (first
        | (go_at_call 130; refine HS.out.mono ?_; rintro e w7 ⟨rfl, hb7⟩; have B7 := hid hb7; clear hb7)
        | (go_at_call 129; refine (four_calls (crc (bodyB x)).toNat _ (crc (bodyB x)).isLt).mono ?_; rintro e w8 ⟨v8, rfl, ho8, hb8⟩; obtain ⟨a8, n8, c8, e8, hl8, hbs8, _⟩ := ob_n ho8; subst e8; have P8 := hid hbs8; have L8 := hid hl8; have B8 := hid hb8; clear ho8 hb8 hbs8 hl8)
        | (at_builtin; refine wpList_append_b (.tmp 33) (.tmp 36) _ rfl rfl (z + 1) 5 info_u8 under_bytes _ _ ((O6.out.below B7.out).below B8.out) rfl P8.out (by rw [L8.out]; rfl) (by rw [LB.out]; simp [le4]) (Nat.le_trans (Nat.le_trans S6.out B7.out.size) B8.out.size) ?_; intro v9 w9 ho9 hg9 hb9 _; have O9 := hid ho9; have B9 := hid hb9; clear ho9 hg9 hb9))
      go_ret
      refine ⟨v9, rfl, ?_, ?_⟩
      · show OB w9 _ 5 v9 (bodyB x ++ tailL (crc (bodyB x)))
        rw [tailL_le4]
        exact O9.out.base (by rw [Hz.out]; exact Nat.le_succ z)
      · rw [Hz.out]
        exact ((((BH.out.trans (B4.out.mono (Nat.le_succ z))).trans (B6.out.mono (Nat.le_succ z))).trans (B7.out.mono (Nat.le_of_succ_le S6.out))).trans (B8.out.mono (Nat.le_trans (Nat.le_of_succ_le S6.out) B7.out.size))).trans (B9.out.mono (Nat.le_succ z))
end Go.Proofs.YtoapibbbooongaaDoor
