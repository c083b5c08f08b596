/- The walks of layer 16: the laws' own table, and the document's example. -/
import Derived.Test.YtombndhjoaaaiaaDoorJobI
namespace Go.Proofs.YtombndhjoaaaiaaDoor
open Go.RowKit Go.Quad _root_.Quad _root_.Quad.Ink

/-- a table that a law has made, and blocks of the law's own beside it -/
def LT (w W : World) (T b : Nat) (t : TbD) (G : List Nat) : Prop := Below w.heap.size w W ∧ ∃ ov, IsTb W w.heap.size T b ov t ∧ ∀ g ∈ G, g < W.heap.size ∧ g ∉ tbS T b ov
theorem LT.below {w W W' : World} {T b : Nat} {t : TbD} {G : List Nat} (h : LT w W T b t G) (hb : Below W.heap.size W W') : LT w W' T b t G := by
  obtain ⟨h1, ov, h2, h3⟩ := h
  exact ⟨h1.trans (hb.mono h1.size), ov, h2.below hb, fun g hg => ⟨Nat.lt_of_lt_of_le (h3 g hg).1 hb.size, (h3 g hg).2⟩⟩
theorem LT.drop {w W : World} {T b : Nat} {t : TbD} {G : List Nat} (h : LT w W T b t G) : LT w W T b t [] := by
  obtain ⟨h1, ov, h2, h3⟩ := h
  exact ⟨h1, ov, h2, by simp⟩
theorem LT.mk1 {w W : World} {T b : Nat} {t : TbD} {G : List Nat} (h : LT w W T b t G) (o : Obj) : LT w (W.alloc o) T b t (W.heap.size :: G) := by
  obtain ⟨h1, ov, h2, h3⟩ := h
  have hb := below_alloc W o
  refine ⟨h1.trans (hb.mono h1.size), ov, h2.below hb, fun g hg => ?_⟩
  rcases List.mem_cons.1 hg with rfl | hg
  · exact ⟨by simp, fun m => by have := (h2.lt _ m).2; omega⟩
  · exact ⟨Nat.lt_of_lt_of_le (h3 g hg).1 hb.size, (h3 g hg).2⟩
def LTo (w W : World) (T b : Nat) (t' : TbD) (G : List Nat) (r : Value) (e : Ending) (W' : World) : Prop :=
  e = .returned r ∧ LT w W' T b t' G ∧ ∀ g ∈ G, ∀ cs ty, Blk W g cs ty → Blk W' g cs ty
theorem LT.to {w W : World} {T b : Nat} {t t' : TbD} {G : List Nat} {r : Value} {f : Nat} {args : Array Value} (h : LT w W T b t G) (hc : ∀ ov, IsTb W w.heap.size T b ov t → Calls Tryd.prog f args W (TbTo W w.heap.size T b ov t' r)) : Calls Tryd.prog f args W (LTo w W T b t' G r) := by
  obtain ⟨h1, ov, h2, h3⟩ := h
  refine (hc ov h2).mono ?_
  rintro e W' ⟨rfl, ov', h4, h5, h6⟩
  refine ⟨rfl, ⟨h1.trans (h5.below h1.size (fun k hk => (h2.lt k hk).1)), ov', h4, fun g hg => ⟨Nat.lt_of_lt_of_le (h3 g hg).1 h5.size, fun m => ?_⟩⟩, fun g hg cs ty hB => hB.keep h5 (h3 g hg).2⟩
  rcases List.mem_cons.1 m with rfl | m
  · exact (h3 _ hg).2 (by simp [tbS])
  · rcases List.mem_cons.1 m with rfl | m
    · exact (h3 _ hg).2 (by simp [tbS])
    · rcases h6 g (by simpa using m) with h | h
      · exact (h3 _ hg).2 h
      · have := (h3 g hg).1; omega
theorem LT.laid {w W : World} {T b : Nat} {t : TbD} {G : List Nat} (h : LT w W T b t G) (hl : Laid w) : Laid W := hl.below h.1 hl.1
theorem ldo_calls {w W : World} {T b : Nat} {t : TbD} {G : List Nat} (h : LT w W T b t G) (q : ReqD) (hq : q.Ok) (hl : Laid w) :
    Calls Tryd.prog 11 #[.pointer (some ⟨T, 0, none⟩), .agg (reqV q).toArray] W (LTo w W T b (doT t q).1 G (doRes (doT t q).2)) := h.to fun ov hT => do_calls W w.heap.size T b ov t q hT hq (h.laid hl)
theorem subQ_ok (s : Nat) (hs : s < 4294967296) : (subQ s).Ok := ⟨by show 0 < 256; omega, hs, by show 1 < 256; omega, by show 1 < 256; omega, by show (-9223372036854775808 : Int) ≤ 2 ∧ (2 : Int) ≤ 9223372036854775807; omega, by show (-9223372036854775808 : Int) ≤ 5 ∧ (5 : Int) ≤ 9223372036854775807; omega, by show 0 < 4294967296; omega⟩
theorem lnew_calls (w W : World) (hW : Below w.heap.size w W) : Calls Tryd.prog 10 #[.int .i64 4] W fun e W' => ∃ T b, e = .returned (.tuple #[.pointer (some ⟨T, 0, none⟩), .int .i64 0]) ∧ LT w W' T b (tJ 0 0) [] := by
  refine (jnew_calls W 4 (by decide)).mono ?_
  intro e W' h
  unfold NewTo at h
  rw [if_pos (by decide)] at h
  obtain ⟨T, b, rfl, h1, h2⟩ := h
  exact ⟨T, b, rfl, hW.trans (h2.mono hW.size), .slice none 0 0, ⟨h1.own, h1.map, .nil _ _, ⟨Nat.le_trans hW.size h1.ge.1, Nat.le_trans hW.size h1.ge.2⟩, h1.ok⟩, by simp⟩
theorem aw1 : doT (tJ 0 0) (subQ 1) = (tJ 0 1, ⟨0, 1, 0, 1, 0, 0⟩, true) := do_sub 0 0 (by omega) (by omega)
theorem aw2 : doT (tJ 0 1) (subQ 1) = (tJ 0 1, ⟨0, 1, 0, 1, 0, 0⟩, false) := by
  have ho : orderT (tJ 0 1) (subQ 1) = 0 := by
    unfold orderT
    show (if 1 = 0 then (1 : Int) else if 1 < 0 + 1 then 12 else if 1 < 1 - (0 + 1) then 11 else 0) = 0
    decide
  unfold doT
  rw [if_neg (by rw [req_sub]; simp), if_neg (by show ¬ (1 = 3); omega), if_neg (by rw [ho]; simp), if_pos (by show 1 = 0 + 1; omega)]
  rfl
theorem aw3 : doT (tJ 0 1) (subQ 3) = (tJ 0 1, ⟨0, 3, 11, 0, 0, 0⟩, false) := by
  have ho : orderT (tJ 0 1) (subQ 3) = 11 := by
    unfold orderT
    show (if 3 = 0 then (1 : Int) else if 3 < 0 + 1 then 12 else if 1 < 3 - (0 + 1) then 11 else 0) = 11
    decide
  unfold doT
  rw [if_neg (by rw [req_sub]; simp), if_neg (by show ¬ (1 = 3); omega), if_pos (by rw [ho]; simp), ho]
  rfl

set_option maxRecDepth 100000 in
set_option maxHeartbeats 4000000 in
theorem jawake_calls (w : World) (hl : Laid w) :
    Calls Tryd.prog 9 #[] w fun e w' => e = .returned (.bool true) ∧ Below w.heap.size w w' := by
  have HL := hid hl
  have hN := hid (lnew_calls w w (Below.refl _ _))
  clear hl
  go_enter Tryd.func9, Tryd.ntmps9
  go_upto_region 4 with (go_at_call 10; go_loud (refine hN.out.mono ?_; rintro e w0 ⟨T, b, rfl, hl0⟩; have L0 := hid hl0; clear hl0))
  have S1 := hid (subreq_calls w0 1 (by omega))
  go_upto_region 5 with (first | (go_at_call 15; go_loud (refine S1.out.mono ?_; rintro e u1 ⟨rfl, hb⟩; have L1 := hid (L0.out.below hb); have D1 := hid (ldo_calls L1.out (subQ 1) (subQ_ok 1 (by omega)) HL.out); rw [aw1] at D1; clear hb)) | (go_at_call 11; go_loud (refine D1.out.mono ?_; rintro e v1 ⟨rfl, hl, hk⟩; have M1 := hid hl; clear hl hk; simp only [doRes])) | (refine wpListQ_alloc (o := ⟨some 3, _, _, _, _, _⟩) 30 rfl rfl zrep 6 info_rep ?_) | (refine wpListQ_store_new (o := ⟨none, _, 0, _, _, _⟩) rfl 30 (.tmp 3) (.tmp 23) rfl zrep (repV (⟨0, 1, 0, 1, 0, 0⟩ : RepD)).toArray rfl rfl size_rep rfl (all_oneCell_toArray (repV_one _)) ?_))
  obtain ⟨z1, hz1⟩ : ∃ z, v1.heap.size = z := ⟨_, rfl⟩
  have N1 := hid (show LT w (v1.alloc (.cells (repV (⟨0, 1, 0, 1, 0, 0⟩ : RepD)).toArray 30)) T b (tJ 0 1) [z1] from by rw [← hz1]; exact M1.out.mk1 _)
  have K1_1 := hid (show Blk (v1.alloc (.cells (repV (⟨0, 1, 0, 1, 0, 0⟩ : RepD)).toArray 30)) z1 (repV (⟨0, 1, 0, 1, 0, 0⟩ : RepD)) 30 from by rw [← hz1]; exact blk_alloc v1 (repV (⟨0, 1, 0, 1, 0, 0⟩ : RepD)) 30)
  try rw [hz1]
  generalize (v1.alloc (.cells (repV (⟨0, 1, 0, 1, 0, 0⟩ : RepD)).toArray 30)) = x1 at N1 K1_1 ⊢
  clear hz1 S1
  have S2 := hid (subreq_calls x1 1 (by omega))
  go_upto_region 6 with (first | (go_at_call 15; go_loud (refine S2.out.mono ?_; rintro e u2 ⟨rfl, hb⟩; have L2 := hid (N1.out.below hb); have KB2_1 := hid (K1_1.out.below hb); have D2 := hid (ldo_calls L2.out (subQ 1) (subQ_ok 1 (by omega)) HL.out); rw [aw2] at D2; clear hb)) | (go_at_call 11; go_loud (refine D2.out.mono ?_; rintro e v2 ⟨rfl, hl, hk⟩; have M2 := hid hl; have KD2_1 := hid (hk z1 (by simp) _ _ KB2_1.out); clear hl hk; simp only [doRes])) | (refine wpListQ_alloc (o := ⟨some 5, _, _, _, _, _⟩) 30 rfl rfl zrep 6 info_rep ?_) | (refine wpListQ_store_new (o := ⟨none, _, 0, _, _, _⟩) rfl 30 (.tmp 5) (.tmp 29) rfl zrep (repV (⟨0, 1, 0, 1, 0, 0⟩ : RepD)).toArray rfl rfl size_rep rfl (all_oneCell_toArray (repV_one _)) ?_))
  obtain ⟨z2, hz2⟩ : ∃ z, v2.heap.size = z := ⟨_, rfl⟩
  have N2 := hid (show LT w (v2.alloc (.cells (repV (⟨0, 1, 0, 1, 0, 0⟩ : RepD)).toArray 30)) T b (tJ 0 1) [z2, z1] from by rw [← hz2]; exact M2.out.mk1 _)
  have K2_2 := hid (show Blk (v2.alloc (.cells (repV (⟨0, 1, 0, 1, 0, 0⟩ : RepD)).toArray 30)) z2 (repV (⟨0, 1, 0, 1, 0, 0⟩ : RepD)) 30 from by rw [← hz2]; exact blk_alloc v2 (repV (⟨0, 1, 0, 1, 0, 0⟩ : RepD)) 30)
  have K2_1 := hid (KD2_1.out.below (below_alloc v2 (.cells (repV (⟨0, 1, 0, 1, 0, 0⟩ : RepD)).toArray 30)))
  try rw [hz2]
  generalize (v2.alloc (.cells (repV (⟨0, 1, 0, 1, 0, 0⟩ : RepD)).toArray 30)) = x2 at N2 K2_2 K2_1 ⊢
  clear hz2 S2
  have S3 := hid (subreq_calls x2 3 (by omega))
  go_upto_region 7 with (first | (go_at_call 15; go_loud (refine S3.out.mono ?_; rintro e u3 ⟨rfl, hb⟩; have L3 := hid (N2.out.below hb); have KB3_1 := hid (K2_1.out.below hb); have KB3_2 := hid (K2_2.out.below hb); have D3 := hid (ldo_calls L3.out (subQ 3) (subQ_ok 3 (by omega)) HL.out); rw [aw3] at D3; clear hb)) | (go_at_call 11; go_loud (refine D3.out.mono ?_; rintro e v3 ⟨rfl, hl, hk⟩; have M3 := hid hl; have KD3_1 := hid (hk z1 (by simp) _ _ KB3_1.out); have KD3_2 := hid (hk z2 (by simp) _ _ KB3_2.out); clear hl hk; simp only [doRes])) | (refine wpListQ_alloc (o := ⟨some 7, _, _, _, _, _⟩) 30 rfl rfl zrep 6 info_rep ?_) | (refine wpListQ_store_new (o := ⟨none, _, 0, _, _, _⟩) rfl 30 (.tmp 7) (.tmp 35) rfl zrep (repV (⟨0, 3, 11, 0, 0, 0⟩ : RepD)).toArray rfl rfl size_rep rfl (all_oneCell_toArray (repV_one _)) ?_))
  obtain ⟨z3, hz3⟩ : ∃ z, v3.heap.size = z := ⟨_, rfl⟩
  have N3 := hid (show LT w (v3.alloc (.cells (repV (⟨0, 3, 11, 0, 0, 0⟩ : RepD)).toArray 30)) T b (tJ 0 1) [z3, z2, z1] from by rw [← hz3]; exact M3.out.mk1 _)
  have K3_3 := hid (show Blk (v3.alloc (.cells (repV (⟨0, 3, 11, 0, 0, 0⟩ : RepD)).toArray 30)) z3 (repV (⟨0, 3, 11, 0, 0, 0⟩ : RepD)) 30 from by rw [← hz3]; exact blk_alloc v3 (repV (⟨0, 3, 11, 0, 0, 0⟩ : RepD)) 30)
  have K3_1 := hid (KD3_1.out.below (below_alloc v3 (.cells (repV (⟨0, 3, 11, 0, 0, 0⟩ : RepD)).toArray 30)))
  have K3_2 := hid (KD3_2.out.below (below_alloc v3 (.cells (repV (⟨0, 3, 11, 0, 0, 0⟩ : RepD)).toArray 30)))
  try rw [hz3]
  generalize (v3.alloc (.cells (repV (⟨0, 3, 11, 0, 0, 0⟩ : RepD)).toArray 30)) = x3 at N3 K3_3 K3_1 K3_2 ⊢
  clear hz3 S3
  have a0 := K3_1.out.get 0 rfl
  have b0 := K3_2.out.get 0 rfl
  have a1 := K3_1.out.get 1 rfl
  have b1 := K3_2.out.get 1 rfl
  have a2 := K3_1.out.get 2 rfl
  have b2 := K3_2.out.get 2 rfl
  have a3 := K3_1.out.get 3 rfl
  have b3 := K3_2.out.get 3 rfl
  have a4 := K3_1.out.get 4 rfl
  have b4 := K3_2.out.get 4 rfl
  have a5 := K3_1.out.get 5 rfl
  have b5 := K3_2.out.get 5 rfl
  have c2 := K3_3.out.get 2 rfl
  go_wp2_with fail
  go_ret
  exact ⟨rfl, N3.out.1⟩

end Go.Proofs.YtombndhjoaaaiaaDoor
