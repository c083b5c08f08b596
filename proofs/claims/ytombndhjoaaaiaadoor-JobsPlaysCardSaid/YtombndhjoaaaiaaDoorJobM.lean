/- The walks of layer 16: a copy of a table; asked: that the table is whole. -/
import Derived.Test.YtombndhjoaaaiaaDoorJobL
import Derived.Laws.Externs
import Derived.MapKept
import Derived.RegionTactic
import Derived.BigRegion
import Derived.Deep.RegionWith
namespace Go.Proofs.YtombndhjoaaaiaaDoor
open Go.RowKit Go.Quad _root_.Quad _root_.Quad.Ink

theorem run_assertMap {P : Program} (w : World) (t xT k e : TypeId) (v : Value) (h : P.underlying t = some (.map k e)) : (Instr.typeAssert (.iface t v) xT t false).run P w = .ok v w := by
  simp [Instr.typeAssert, run_underlying h, go_sem, Result.andThen]
theorem run_equalMapNil {P : Program} (w : World) (d : Nat) (t k e : TypeId) (p : Option Nat) (h : P.underlying t = some (.map k e)) : (Op.equalIn (d + 1) t (.map p) (.map none)).run P w = .ok p.isNone w := by
  cases p <;> simp [Op.equalIn, run_underlying h]
theorem run_eqlMapNil {P : Program} (w : World) (t k e : TypeId) (p : Option Nat) (h : P.underlying t = some (.map k e)) : (binOp .eql t (.map p) (.map none)).run P w = .ok (.bool p.isNone) w := by
  simp only [binOp]
  simp [show Op.equal t (.map p) (.map none) = Op.equalIn (9999 + 1) t (.map p) (.map none) from rfl, run_equalMapNil w 9999 t k e p h]
theorem run_mapClone {P : Program} {w : World} {r : Nat} {es : Array MapEntry} {clock : Nat} (t : TypeId) (hb : w.heap[r]? = some (.map es clock)) :
    (Extern.MapsClone.clone #[.iface t (.map (some r))]).run P w = .ok (.iface t (.map (some w.heap.size))) (w.alloc (.map es clock)) := by
  have e : Extern.MapsClone.clone #[.iface t (.map (some r))] = (getObj r >>= fun o => match o with
      | .map entries clock => (newObj (.map entries clock) >>= fun n => pure (.iface t (.map (some n))))
      | _ => stuck "maps.clone: a map expected") := rfl
  rw [e]
  simp [MapKept.run_getObj_map hb, Result.andThen, go_sem]

set_option maxRecDepth 100000 in
set_option maxHeartbeats 4000000 in
theorem mclone_calls (w : World) (b n : Nat) (D : DataW Unit) (h : w.ownsMap Tryd.prog 28 jobR b n D) :
    Calls Tryd.prog 46 #[.map (some b)] w fun e w' => ∃ b', e = .returned (.map (some b')) ∧ w.heap.size ≤ b' ∧ w'.ownsMap Tryd.prog 28 jobR b' n D ∧ Below w.heap.size w w' := by
  obtain ⟨es, clock, hb, F, hs, hD⟩ := h
  have H := hid (show (w.alloc (.map es clock)).ownsMap Tryd.prog 28 jobR w.heap.size n D from ⟨es, clock, (MapKept.heap_alloc w _).1, F, hs, hD⟩)
  clear F hs hD
  have hq := fun w => run_eqlMapNil (P := Tryd.prog) w 72 _ _ (some b) Tryd.underlying72
  have hx := run_callFunc_extern (P := Tryd.prog) (f := 67) Tryd.func67 (by kernel_rfl) (by kernel_rfl) (by kernel_rfl) (e := Extern.MapsClone.clone) (by kernel_rfl)
  go_enter Tryd.func46, Tryd.ntmps46
  go_wp2_with fail
  rw [run_mapClone 72 hb]
  simp only [Result.andThen]
  rw [Oper.upon_value]
  go_wp2_with fail
  rw [run_assertMap _ 72 20 _ _ _ Tryd.underlying72]
  simp only [Result.andThen]
  rw [Oper.upon_value]
  go_wp2_with fail
  go_ret
  exact ⟨_, rfl, Nat.le_refl _, H.out, below_alloc w _⟩

def ztab : Array Value := #[.int .i64 0, .int .u32 0, .map none, .slice none 0 0] ++ ((List.replicate 8 [Value.int .u8 0, .int .u32 0, .int .i64 0, .int .u32 0, .int .u8 0, .int .i64 0]).flatten).toArray
theorem info_tab : (Tryd.prog.info? 75).map (fun i => (i.zero, i.size)) = some (some (.agg ztab), 52) := by kernel_rfl
theorem size_tab : (Tryd.prog.info? 75).map (·.size) = some 52 := by kernel_rfl
theorem row_tab : ∃ d, Tryd.prog.underlying 75 = some d ∧ d.isRow = true := ⟨_, Tryd.underlying75, rfl⟩
theorem ztab_size : ztab.size = 52 := by kernel_rfl
theorem tbV_len {t : TbD} (ht : t.Ok) (b : Nat) (ov : Value) : (tbV t b ov).length = 52 := by
  unfold tbV
  rw [List.length_append, flat_length repV 6 (fun _ => rfl), ht.last]
  rfl
theorem tbV_one (t : TbD) (b : Nat) (ov : Value) (ho : ov.oneCell' = true) : ∀ u ∈ tbV t b ov, u.oneCell' = true := by
  intro u hu
  rcases List.mem_append.1 hu with hu | hu
  · simp only [List.mem_cons, List.not_mem_nil, or_false] at hu
    rcases hu with rfl | rfl | rfl | rfl
    · rfl
    · rfl
    · rfl
    · exact ho
  · obtain ⟨r, _, hr⟩ := List.mem_flatMap.1 hu
    exact repV_one r u hr
def CopyTo (w : World) (t : TbD) (e : Ending) (w' : World) : Prop := ∃ T2 b2 ov2, e = .returned (.pointer (some ⟨T2, 0, none⟩)) ∧ IsTb w' w.heap.size T2 b2 ov2 t ∧ Below w.heap.size w w'

theorem jr_of_row {w : World} {B : Nat} {v : Value} {l : List JobD} (h : w.ownsRow B 37 6 v l.length (l.flatMap jobV)) : JR w B v l := by
  rcases h.2 with ⟨rfl, h0⟩ | ⟨g, cap, cur, rfl, hb, hg, h1, h2, h3, h4⟩
  · exact .inl ⟨rfl, List.eq_nil_of_length_eq_zero h0⟩
  · refine .inr ⟨g, 0, cap, cur.toList, rfl, hb, hg, h1, h2, by rw [Array.length_toList, h3]; omega, fun i u hu => ?_⟩
    have hi := (List.getElem?_eq_some_iff.1 hu).1
    rw [flat6] at hi
    rw [← h4, List.getElem?_take_of_lt hi] at hu
    rw [Nat.zero_add]; exact hu
theorem copy_end {w w8 w9 wa : World} {T2 b ov2n b2 base : Nat} {ov v2 : Value} {t : TbD} {D : DataW Unit} (ht : t.Ok) (hz : w.heap.size = T2) (h8 : Below w.heap.size w w8) (K8 : Blk w8 T2 (tbV t b ov) 75)
    (h9 : Below w8.heap.size w8 w9) (hge : w8.heap.size ≤ b2) (hM : w9.ownsMap Tryd.prog 28 jobR b2 ov2n D) (hov : ov2n = t.active.length) (hMI : MapIs D t.active) (ha : Below w9.heap.size w9 wa) (hR : wa.ownsRow base 37 6 v2 t.over.length (t.over.flatMap jobV)) (hbase : w8.heap.size ≤ base) :
    CopyTo w t (.returned (.pointer (some ⟨T2, 0, none⟩))) ((wa.setCell ⟨T2, 2, none⟩ (.map (some b2))).setCell ⟨T2, 3, none⟩ v2) := by
  have hlt := K8.lt
  have hC : Chg [T2] wa ((wa.setCell ⟨T2, 2, none⟩ (.map (some b2))).setCell ⟨T2, 3, none⟩ v2) := (chg_setCell _ _ _ _).trans (chg_setCell _ _ _ _)
  have hBa : Below w.heap.size w wa := h8.trans ((h9.trans (ha.mono h9.size)).mono h8.size)
  refine ⟨T2, b2, v2, rfl, ⟨?_, ⟨D, ?_, hMI⟩, ?_, ⟨by omega, by have := h8.size; omega⟩, ht⟩, hBa.trans (hC.below hBa.size (by simp [hz]))⟩
  · exact (((K8.below h9).below ha).set 2 _).set 3 _
  · subst hov
    exact owns_block hM (((hC.block b2 (Nat.lt_of_lt_of_le hM.lt ha.size) (by simp; omega))).trans (ha.block b2 hM.lt))
  · have hJ := jr_of_row (RO.base' (f := jobV) (l := t.over) (show RO jobV 6 wa base 37 v2 t.over from hR) (show w.heap.size ≤ base from by have := h8.size; omega))
    exact hJ.chg hC (fun k hk => by
      have h1 := (World.ownsRow.lt hR k hk).1
      simp; omega)

set_option maxRecDepth 100000 in
set_option maxHeartbeats 8000000 in
theorem jcopy_calls (w : World) (B T b : Nat) (ov : Value) (t : TbD) (h : IsTb w B T b ov t) : Calls Tryd.prog 18 #[.pointer (some ⟨T, 0, none⟩)] w (CopyTo w t) := by
  obtain ⟨D, hD, hM⟩ := h.map
  obtain ⟨T2, hT2⟩ : ∃ T2, w.heap.size = T2 := ⟨_, rfl⟩
  have hone : ov.oneCell' = true := by
    obtain ⟨a, n, c, rfl, _⟩ := h.over.cs
    rfl
  have hb8 := below_alloc w (.cells (tbV t b ov).toArray 75)
  have H8 := hid (h.below hb8)
  have K8 := hid (show Blk (w.alloc (.cells (tbV t b ov).toArray 75)) T2 (tbV t b ov) 75 from by rw [← hT2]; exact blk_alloc w (tbV t b ov) 75)
  have B8 := hid hb8
  have hlen := tbV_len h.ok b ov
  have h1 := tbV_one t b ov hone
  have hL2 : (tbV t b ov).toArray.size = 52 := by rw [List.size_toArray, hlen]
  have hS := size_tab
  have H0 := hid h
  have HZ := hid hT2
  clear h hb8 hT2
  go_enter Tryd.func18, Tryd.ntmps18
  go_upto_region 3 with fail
  repeat (first | (refine wpList_load_blk (o := ⟨some 8, _, _, _, _, _⟩) 75 (.tmp 7) rfl rfl T (tbV t b ov) 75 rfl H0.out.own row_tab (hS.trans (by rw [hlen])) ?_) | (refine wpListQ_alloc (o := ⟨some 3, _, _, _, _, _⟩) 75 rfl rfl ztab 52 info_tab ?_) | (refine wpListQ_store_new (o := ⟨none, _, 0, _, _, _⟩) rfl 75 (.tmp 3) (.tmp 8) rfl ztab (tbV t b ov).toArray rfl rfl (hS.trans (by rw [hL2])) (ztab_size.trans hL2.symm) (all_oneCell_toArray h1) ?_) | go_step)
  rw [HZ.out]
  generalize (w.alloc (.cells (tbV t b ov).toArray 75)) = w8 at H8 K8 B8 ⊢
  obtain ⟨D8, hD8, hM8⟩ := H8.out.map
  have HC := hid fun (W : World) (hW : Below w8.heap.size w8 W) => mclone_calls W b _ D8 (owns_block hD8 (hW.block b hD8.lt))
  have HO := hid fun (W : World) (hW : Below w8.heap.size w8 W) => jclone_calls W B ov t.over (H8.out.over.below hW) (by have := H0.out.ok.few.2; omega)
  have c2 := H8.out.own.get 2 rfl
  have c3 := H8.out.own.get 3 rfl
  have e2 := K8.out.get 2 rfl
  have e3 := K8.out.get 3 rfl
  have f2 := K8.out.free 2
  have f3 := K8.out.free 3
  have HM8 := hid hM8
  clear hD8 hM8
  go_wp2_with fail
  go_region_with (first
    | (go_at_call 46; refine (HC.out _ (below_drewN (Below.refl _ _) _)).mono ?_; rintro e w9 ⟨b2, rfl, hge, hown, hb⟩; have B9 := hid ((below_drewN (Below.refl _ w8) _).trans hb); have G9 := hid hge; have M9 := hid hown; have c93 := (H8.out.own.below B9.out).get 3 rfl; have e92 := (K8.out.below B9.out).get 2 rfl; have e93 := (K8.out.below B9.out).get 3 rfl; have f92 := (K8.out.below B9.out).free 2; have f93 := (K8.out.below B9.out).free 3; clear hge hown hb)
    | (go_at_call 43; refine (HO.out _ (by first | exact B9.out | exact B9.out.trans (below_drewN (Below.refl _ _) _))).mono ?_; rintro e wa ⟨v2, rfl, hr, hb⟩; obtain ⟨a2, k2, rfl⟩ := row_slice hr; have Ba := hid (show Below w9.heap.size w9 wa from by first | exact hb | exact (below_drewN (Below.refl _ w9) _).trans hb); have Ra := hid hr; have ea2 := ((K8.out.below B9.out).below Ba.out).get 2 rfl; have ea3 := ((K8.out.below B9.out).below Ba.out).get 3 rfl; have fa2 := ((K8.out.below B9.out).below Ba.out).free 2; have fa3 := ((K8.out.below B9.out).below Ba.out).free 3; clear hr hb))
  all_goals (go_wp2_with fail; go_ret; exact copy_end H0.out.ok HZ.out B8.out K8.out B9.out G9.out M9.out rfl HM8.out Ba.out Ra.out B9.out.size)
end Go.Proofs.YtombndhjoaaaiaaDoor
