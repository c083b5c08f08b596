/- The walks of layer 16: those that are active by their numbers, the next number, a copy, a nil table's; asked of each: that the table is whole. -/
import Derived.Test.YtombndhjoaaaiaaDoorJobJ
import Derived.Test.YtombndhjoaaaiaaDoorKeys
import Derived.Test.YtombndhjoaaaiaaDoorArr
namespace Go.Proofs.YtombndhjoaaaiaaDoor
open Go.RowKit Go.Quad _root_.Quad _root_.Quad.Ink

theorem wpList_lookup_R {H : Type} {P : Program} (w : World) {ops : Array Oper} {rest : List Oper} {o : Oper} {a : Act} {Q : Exit → Act → World → Prop}
    (hg : o.guard = none) (m x : Operand) (t : TypeId) (hop : o.op = Op.lookup t m x false)
    (k e : TypeId) (K : Maps.Keyed P k) (ht : P.underlying t = some (.map k e)) (R : Value → Option (DataW H × List MemPlace)) {z : Value} (hz : (zeroValue e).run P w = .ok z w) (zd : DataW H) (zp : List MemPlace) (hzd : R z = some (zd, zp)) (b n : Nat) (D : DataW H)
    (hm : a.eval m = .map (some b)) (hown : w.ownsMap P k R b n D) (key : Value) (kl : Lit) (hx : a.eval x = key) (hkey : keyOf P k key = some kl)
    (hK : ∀ v ps, R v = some (D.atKey kl zd, ps) → wpList P ops Q rest (a.put o.dst v) w) :
    wpList P ops Q (o :: rest) a w := by
  refine wpList_plain hg fun K' hK' => ?_
  obtain ⟨v, ps, hrun, hat⟩ := hown.lookup K ht hz hzd hkey
  unfold Oper.wp
  simp [execOp, hop, hm, hx, hrun, Result.andThen]
  exact hK' _ _ (hK v ps hat)

def idV (j : JobD) : List Value := [.int .u32 (j.id : Int)]
theorem idV_length (j : JobD) : (idV j).length = 1 := rfl
theorem ids_sorted {D : DataW Unit} {L : List JobD} {ss : List Int} (hk : KeysU D ss) (hM : MapIs D L) (hp : L.Pairwise (fun a b => a.id < b.id)) : (ss.mergeSort fun x y => decide (x ≤ y)) = L.map fun j => (j.id : Int) := by
  have hnd : (L.map fun j => (j.id : Int)).Nodup := List.pairwise_map.2 (hp.imp fun h e => by omega)
  have hperm : ss.Perm (L.map fun j => (j.id : Int)) := (List.perm_ext_iff_of_nodup hk.1 hnd).2 fun x => by
    rw [hk.2.2 x, List.mem_map]
    constructor
    · intro h
      have hx := hk.2.1 x ((hk.2.2 x).2 h)
      obtain ⟨n, rfl⟩ := Int.eq_ofNat_of_zero_le hx.1
      have h2 : L.any (fun j => j.id == n) = true := by rw [← hM.has n]; exact h
      obtain ⟨j, hj, rfl⟩ := any_id.1 h2
      exact ⟨j, hj, rfl⟩
    · rintro ⟨j, hj, rfl⟩
      exact (hM.has j.id).trans (any_id.2 ⟨j, hj, rfl⟩)
  have tr : ∀ a b c : Int, (fun x y => decide (x ≤ y) : Int → Int → Bool) a b = true → (fun x y => decide (x ≤ y) : Int → Int → Bool) b c = true → (fun x y => decide (x ≤ y) : Int → Int → Bool) a c = true := fun a b c h1 h2 => by simp only [decide_eq_true_eq] at *; omega
  have tot : ∀ a b : Int, ((fun x y => decide (x ≤ y) : Int → Int → Bool) a b || (fun x y => decide (x ≤ y) : Int → Int → Bool) b a) = true := fun a b => by simp only [Bool.or_eq_true, decide_eq_true_eq]; omega
  refine List.Perm.eq_of_pairwise (le := fun a b => decide (a ≤ b) = true) (fun a b _ _ h1 h2 => ?_) (List.pairwise_mergeSort tr tot ss) (List.pairwise_map.2 (hp.imp fun h => by simp only [decide_eq_true_eq]; omega)) ((List.mergeSort_perm ss _).trans hperm)
  simp only [decide_eq_true_eq] at h1 h2
  omega
theorem flat_ids (L : List JobD) : L.flatMap idV = (L.map fun j => (j.id : Int)).map encU := by
  induction L with
  | nil => rfl
  | cons x l ih => rw [List.flatMap_cons, ih]; rfl
theorem ids_calls (w : World) (b : Nat) (D : DataW Unit) (L : List JobD) (n : Nat) (hown : w.ownsMap Tryd.prog 28 jobR b n D) (hM : MapIs D L) (hp : L.Pairwise (fun a b => a.id < b.id)) (hl : L.length ≤ 64) :
    Calls Tryd.prog 44 #[.func (.func 66) #[] #[.pointer (some ⟨w.heap.size, 0, none⟩)]] (w.alloc (.cells #[.map (some b)] 72))
      fun e w' => ∃ a c, e = .returned (.slice a L.length c) ∧ RO idV 1 w' w.heap.size 28 (.slice a L.length c) L ∧ Below w.heap.size w w' := by
  refine (sortedKeys_calls b n D w _ rfl hown (by rw [hM.size]; omega)).mono ?_
  rintro e w' ⟨v, ss, rfl, hk, hrow, hb⟩
  have hs := ids_sorted hk hM hp
  have hn : ss.length = L.length := by have := congrArg List.length hs; simpa using this
  rw [hs, hn] at hrow
  obtain ⟨a, c, rfl⟩ := row_slice hrow
  refine ⟨a, c, rfl, ?_, (below_alloc w _).trans (hb.mono (by simp))⟩
  have : RO idV 1 w' (w.alloc (.cells #[.map (some b)] 72)).heap.size 28 (.slice a L.length c) L := by
    unfold RO
    rw [flat_ids]
    exact hrow
  exact this.base' (by simp)
def ActRel (w2 : World) (l : List JobD) (v iv : Value) (wr : World) : Prop := ∃ k : Nat, iv = .int .i64 (k : Int) ∧ k ≤ l.length ∧ RO jobV 6 wr w2.heap.size 37 v (l.take k) ∧ Below w2.heap.size w2 wr

set_option maxRecDepth 100000 in
set_option maxHeartbeats 8000000 in
theorem active_calls (w : World) (B T b : Nat) (ov : Value) (t : TbD) (h : IsTb w B T b ov t) :
    Calls Tryd.prog 17 #[.pointer (some ⟨T, 0, none⟩)] w fun e w' => ∃ v', e = .returned v' ∧ RO jobV 6 w' w.heap.size 37 v' t.active ∧ Below w.heap.size w w' := by
  obtain ⟨D, hD, hM⟩ := h.map
  have c2 := h.own.get 2 rfl
  have HT := hid h
  have HI := hid (ids_calls w b D t.active _ hD hM h.ok.rise h.ok.few.1)
  have HD := hid hD
  have HM := hid hM
  have Few := hid h.ok.few.1
  have Ids := hid fun j (hj : j ∈ t.active) => (show j.id < 4294967296 from by have := (h.ok.ids j hj).2; have := h.ok.spent; omega)
  clear h hD hM
  go_enter Tryd.func17, Tryd.ntmps17
  go_wp2_with (first | (go_at_call 45; go_loud (refine (keys_calls _ _).mono ?_; rintro e w1 ⟨rfl, rfl⟩)) | (go_at_call 44; go_loud (refine HI.out.mono ?_; rintro e w2 ⟨a, c, rfl, hr, hb⟩; have R2 := hid hr; have B2 := hid hb; clear hr hb)))
  clear HI c2
  go_loopw [3, 15] (fun v iv wr => ActRel w2 t.active v iv wr) (fun _ iv _ => t.active.length - (intOf iv).toNat)
  case atStart => exact ⟨0, rfl, Nat.zero_le _, RO.nil _ _ _ _ _, Below.refl _ _⟩
  case round =>
    obtain ⟨k, rfl, hk, hR, hb⟩ := hrel
    have HR := hid hR
    have HB := hid hb
    have TB := hid ((HT.out.below B2.out).below hb)
    have R3 := hid (R2.out.below hb)
    clear hR hb
    by_cases hkl : k < t.active.length
    · have hkl' : (k : Int) < (t.active.length : Int) := by omega
      have hlen : (t.active.length : Int) ≤ 64 := by have := Few.out; omega
      obtain ⟨a', n', cap', hv', _, _, hcs⟩ := R3.out.cs
      obtain ⟨rfl, rfl, rfl⟩ : a = a' ∧ t.active.length = n' ∧ c = cap' := by simpa using hv'
      obtain ⟨bo, off, rfl, hc⟩ := cs_row idV_length hcs hkl (by decide)
      have d0 := hc 0 _ rfl
      clear hc hcs hv'
      obtain ⟨j, hj⟩ : ∃ j, t.active[k] = j := ⟨_, rfl⟩
      have hjm : j ∈ t.active := hj ▸ List.getElem_mem hkl
      have HJ := hid (show t.active.take (k + 1) = t.active.take k ++ [j] from by rw [List.take_succ_eq_append_getElem hkl, hj])
      have hid1 := Ids.out j hjm
      have HK := hid (keyOf32 hid1)
      have HA := hid (HM.out.at' j hjm (jobDat jobZ))
      rw [hj] at d0
      rw [Nat.add_zero, Nat.mul_one] at d0
      have c2 := TB.out.own.get 2 rfl
      obtain ⟨D', hD', hM'⟩ := TB.out.map
      have HD2 := hid hD'
      have HA2 := hid (hM'.at' j hjm (jobDat jobZ))
      clear hD' hM' hjm hj hid1
      have C1 := hid (cs_lit wr (jobV j) 37 1 6 rfl (by simp [maxLen]))
      have H1 := hid (HR.out.below (below_alloc wr (.cells (jobV j).toArray 37)))
      go_upto_region 7 with fail
      repeat (first
        | (refine wpListQ_buildOne (o := ⟨some 26, _, _, _, _, _⟩) rfl 43 37 (.tmp 25) rfl (jobV j).toArray zjob 6 rfl under_jobs info_job (by decide) rfl ?_)
        | (at_lookup; go_must (refine wpList_lookup_R _ rfl _ _ 72 rfl 28 37 keyed32 Tryd.underlying72 jobR (zeroJob _) (jobDat jobZ) [] (jobR_mk jobZ) b _ D' rfl HD2.out (.int .u32 (j.id : Int)) (idK j.id) rfl HK.out ?_; intro v ps hv; rw [HA2.out] at hv; obtain rfl := jobR_inv hv))
        | (at_builtin; go_must (refine wpList_append_ro jobV_length jobV_one (by decide) (.tmp 19) (.tmp 26) _ rfl rfl w2.heap.size 37 _ 40 info_jobs rfl under_jobs _ _ H1.out rfl (l' := [j]) rfl (by rw [flat1]; exact C1.out) (Nat.le_refl _) rfl (by have := Few.out; simp; omega) (by have := HB.out.size; simp; omega) ?_; intro v6 w6 ho6 hb6 hg6 hw6))
        | go_step)
      go_wp2_with fail
      have R : ActRel w2 t.active v6 (.int .i64 ((k : Int) + 1)) w6 := ⟨k + 1, by simp, hkl, by rw [HJ.out]; exact ho6, HB.out.trans (((below_alloc wr _).mono HB.out.size).trans hb6)⟩
      refine ⟨?_, ?_⟩
      · first | exact R | ((repeat apply Exists.intro); refine ⟨R, ?_⟩; and_intros <;> rfl)
      · simp [intOf]
        omega
    · have hkl' : ¬ ((k : Int) < (t.active.length : Int)) := by omega
      obtain rfl : k = t.active.length := by omega
      rw [List.take_length] at HR
      clear hkl
      go_wp2_with fail
      go_ret
      exact ⟨_, rfl, HR.out.base' B2.out.size, B2.out.trans (HB.out.mono B2.out.size)⟩

set_option maxRecDepth 100000 in
theorem next_calls16 (w : World) (B T b : Nat) (ov : Value) (t : TbD) (h : IsTb w B T b ov t) :
    Calls Tryd.prog 19 #[.pointer (some ⟨T, 0, none⟩)] w fun e w' => e = .returned (.int .u32 (((t.spent + 1) % 4294967296 : Nat) : Int)) ∧ w' = w := by
  have c1 := h.own.get 1 rfl
  have hs := h.ok.spent
  have E := hid (show (((t.spent : Int) + 1) % 4294967296) = (((t.spent + 1) % 4294967296 : Nat) : Int) from by omega)
  clear h
  go_enter Tryd.func19, Tryd.ntmps19
  go_wp2_with fail
  go_ret
  first
    | exact ⟨rfl, rfl⟩
    | exact ⟨by rw [← E.out]; first | rfl | (rw [IntKind.wrap_u32]), rfl⟩
theorem nilactive_calls (w : World) : Calls Tryd.prog 17 #[.pointer none] w fun e w' => e = .returned (.slice none 0 0) ∧ w' = w := by
  go_enter Tryd.func17, Tryd.ntmps17
  go_wp2_with fail
  go_ret
  exact ⟨rfl, rfl⟩
theorem nilover_calls (w : World) : Calls Tryd.prog 16 #[.pointer none] w fun e w' => e = .returned (.slice none 0 0) ∧ w' = w := by
  go_enter Tryd.func16, Tryd.ntmps16
  go_wp2_with fail
  go_ret
  exact ⟨rfl, rfl⟩
theorem nilnext_calls (w : World) : Calls Tryd.prog 19 #[.pointer none] w fun e w' => e = .returned (.int .u32 0) ∧ w' = w := by
  go_enter Tryd.func19, Tryd.ntmps19
  go_wp2_with fail
  go_ret
  exact ⟨rfl, rfl⟩

end Go.Proofs.YtombndhjoaaaiaaDoor
