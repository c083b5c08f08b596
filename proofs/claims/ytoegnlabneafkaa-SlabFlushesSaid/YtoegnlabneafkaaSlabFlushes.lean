/- SlabFlushes: what is flushed stays. -/
import Derived.Test.YtoegnlabneafkaaSlabOps
import Derived.Test.YtoegnlabneafkaaZeros
import Derived.Deep.QuietTactic
import Derived.BigQuiet
namespace Go.Proofs.Ytoegnlabneafkaa
open Go.RowKit Go.Quad _root_.Quad.Slab

theorem fmin128 (n : Nat) : (if 128 < (n : Int) then 128 else (n : Int)) = ((min n 128 : Nat) : Int) := by split <;> omega
theorem fmin140 (n : Nat) : (if 140 < (n : Int) then 140 else (n : Int)) = ((min n 140 : Nat) : Int) := by split <;> omega
theorem fl_small : (newL 8).steps < 1000000 ∧ (newL 8).way.length < 1000000 := by decide +kernel
theorem run_bytes_at (w : World) (g i : Nat) (v : Value) (h : w.cell? ⟨g, i, none⟩ = some v) : (Instr.loadAt 22 (.pointer (some ⟨g, i, none⟩))).run Try.prog w = .ok v w := by go_simp

def FlsRel (wn : World) (g : Nat) (q : Bytes) (n : Nat) (iv : Value) (wr : World) : Prop :=
  ∃ (k : Nat) (s : Sl), iv = .int .i64 (k : Int) ∧ k ≤ n ∧ k ≤ 30 ∧ SA wn g s wr ∧ Keeps q k s

set_option maxRecDepth 20000 in
set_option maxHeartbeats 2000000 in
theorem slabFlushes_walk (a0 : Option Addr) (c0 : Nat) (l0 : List UInt8) (v1 : Value) (a2 : Option Addr) (c2 : Nat) (l2 : List UInt8) (cut : Int) (w : World) (h0 : BS w a0 c0 l0) (h1 : RV Try.prog w 35 v1) (h2 : BS w a2 c2 l2) (hc : (Lit.int .i64 cut).wf = true) :
    Calls Try.prog 5 #[.slice a0 l0.length c0, v1, .slice a2 l2.length c2, .int .i64 cut] w fun e w' => e = .returned (.bool true) ∧ Below w.heap.size w w' := by
  obtain ⟨a1, c1, l1, rfl, hok1, hcs1, hlc1⟩ := ops_open h1
  have hcut := bounds_i64 hc
  have m0 := h0.max'
  have f0 := h0.fit'
  have m1 : l1.length ≤ 9223372036854775807 := by have := hcs1.max; unfold maxLen at this; omega
  have m2 := h2.max'
  have H0 := hid h0
  have F2 := hid h2
  have Hok := hid hok1
  have Hcs := hid hcs1
  have M0 := hid (fmin128 l0.length)
  obtain ⟨k0, hk0⟩ : ∃ k, min l0.length 128 = k := ⟨_, rfl⟩
  rw [hk0] at M0
  have K0 := hid hk0
  have b0 : (k0 : Int) ≤ 128 ∧ k0 ≤ c0 := by omega
  clear h0 hk0 h1 h2 hc hok1 hcs1
  go_enter Try.func5, Try.ntmps5
  go_wp2_with fail
  refine (awake_calls w).mono ?_
  rintro e w1 ⟨rfl, hb⟩
  have B1 := hid hb
  clear hb
  have m0' := M0.out
  go_wp2_with fail
  clear m0'
  have L0 := hid (show (l0.take k0).length = k0 from by have := K0.out; rw [List.length_take]; omega)
  have V0 := hid (H0.out.take k0)
  generalize l0.take k0 = p0 at V0 L0
  refine (sa_new _ 8 (by decide)).mono ?_
  rintro e w2 ⟨g, rfl, h2⟩
  obtain ⟨wn, hwn⟩ : ∃ wn, w1 = wn := ⟨_, rfl⟩
  subst hwn
  have Bn := B1
  have S2 := hid h2
  clear h2
  have W2 := hid (Bn.out.trans (S2.out.2.mono Bn.out.size))
  go_wp2_with (at_builtin; go_must (refine wpList_append_lit0 (.tmp 30) (.tmp 31) _ rfl rfl 5 info_u8 under_bytes rfl (V0.out.below W2.out) k0 L0.out rfl (by rw [L0.out]; omega) ?_; intro v3 w3 ho hb; obtain ⟨a3, cp3, e3, hbs, hof⟩ := ho.bs; subst e3; have A3 := hid hbs; have O3 := hid hof; have B3 := hid hb; clear hbs hof hb ho))
  have S3 := hid (S2.out.below B3.out)
  have KS := hid (keeps_start p0 (by rw [L0.out]; omega))
  refine (sa_write w1 _ g (newL 8) 3 a3 cp3 p0 S3.out (by omega) A3.out fl_small.1 fl_small.2 (S2.out.off_new B3.out (fun x hx => (O3.out x hx).2.2.1))).mono ?_
  rintro e w4 ⟨he, h4⟩
  rw [KS.out.1] at he
  subst he
  have S4 := hid h4
  clear h4
  go_wp2_with fail
  refine (sa_flush w1 _ g _ S4.out KS.out.2.2.2).mono ?_
  rintro e w5 ⟨he, h5⟩
  rw [KS.out.2.1] at he
  subst he
  have S5 := hid h5
  clear h5
  obtain ⟨wn, hwn⟩ : ∃ wn : World, wn = w1 := ⟨_, rfl⟩
  subst hwn
  go_wp2_with fail
  go_loopw [43] (fun iv wr => FlsRel wn g (pad p0) l1.length iv wr) (fun iv _ => l1.length - (intOf iv).toNat)
  case atStart => exact ⟨0, _, rfl, Nat.zero_le _, by omega, S5.out, KS.out.2.2.1⟩
  case round =>
    obtain ⟨k, s, rfl, hk, hk30, hT, hkp⟩ := hrel
    have T := hid hT
    have Kp := hid hkp
    clear hT hkp
    by_cases hgo : k < l1.length ∧ k < 30
    · obtain ⟨hkl, h30⟩ := hgo
      have Ho := hid (Hok.out _ (List.getElem_mem hkl))
      obtain ⟨bo, off, rfl, hc⟩ := cs_row opV_length Hcs.out hkl (by decide)
      have W5 := Bn.out.trans (T.out.2.mono Bn.out.size)
      have d0 := cell_later W5 (hc 0 _ rfl)
      have d1 := cell_later W5 (hc 1 _ rfl)
      have d2 := cell_later W5 (hc 2 _ rfl)
      have Wr := hid W5
      clear hc W5
      generalize l1[k] = o at Ho d0 d1 d2
      have hkl' : (k : Int) < (l1.length : Int) := by omega
      have h30' : ¬ ((30 : Int) ≤ (k : Int)) := by omega
      rw [Nat.add_zero] at d0
      obtain ⟨dd, i, ao, co, t⟩ := o
      dsimp only at d0 d1 d2
      obtain ⟨hd, hi, ht⟩ := Ho.out
      dsimp only at hd hi ht
      have mt := ht.max'
      have Ht := hid ht
      clear ht Ho
      have hdd : (dd : Int) ≤ 255 := by omega
      have hq : dd % 4 = 0 ∨ dd % 4 = 1 ∨ dd % 4 = 2 ∨ dd % 4 = 3 := by omega
      have Bo := hid (blk_alloc wr [.int .u8 (dd : Int), .int .i64 i, .slice ao t.length co] 39)
      have To := hid (T.out.below (below_alloc wr (.cells #[.int .u8 (dd : Int), .int .i64 i, .slice ao t.length co] 39)))
      have hz : wr.heap.size < (wr.alloc (.cells #[.int .u8 (dd : Int), .int .i64 i, .slice ao t.length co] 39)).heap.size := by simp
      obtain ⟨kt, hkt⟩ : ∃ kt, min t.length 140 = kt := ⟨_, rfl⟩
      have Hkt := hid ((fmin140 t.length).trans (by rw [hkt]))
      have hkt2 : kt ≤ t.length := by omega
      rcases hq with hq | hq | hq | hq
      · have hq' : (dd : Int) % 4 = 0 := by omega
        clear hq
        by_cases h3 : i = 3
        · have h3' : (i != 3) = false := by simp [h3]
          have H3 := hid h3
          clear h3
          go_wp2_with fail
          have RR : FlsRel wn g (pad p0) l1.length (.int .i64 ((k : Int) + 1)) (wr.alloc (.cells #[.int .u8 (dd : Int), .int .i64 i, .slice ao t.length co] 39)) := ⟨k + 1, _, by go_num, by omega, by omega, To.out, Kp.out.more⟩
          refine ⟨?_, by simp [intOf]; omega⟩
          first | exact RR | ((repeat apply Exists.intro); refine ⟨RR, ?_⟩; and_intros <;> rfl)
        · have h3' : (i != 3) = true := by simpa using h3
          have H3 := hid h3
          clear h3
          go_upto_region 16 with fail
          refine wp_region_chg 12 10 [] (fun idx v w' => match idx with
            | 0 => v = .pointer (some ⟨g, 0, none⟩)
            | 1 => v = .pointer (some ⟨wr.heap.size, 1, none⟩)
            | 2 => v = .int .i64 i
            | 3 | 5 => v = .pointer (some ⟨wr.heap.size, 2, none⟩)
            | 4 | 6 => v = .slice ao t.length co
            | 7 => v = .int .i64 (t.length : Int)
            | 8 => v = .int .i64 (kt : Int)
            | 9 => v = .slice ao kt co
            | _ => True) (by kernel_rfl) (by kernel_rfl) (by kernel_rfl) ?_ ?_ ?_ ?_
          · intro j v wx wy hR hb
            match j, hR with
            | 0, hR | 1, hR | 2, hR | 3, hR | 5, hR | 4, hR | 6, hR | 7, hR | 8, hR | 9, hR => exact hR
            | _ + 10, _ => trivial
          · intro j v wx wy hne hR hb
            match j, hR with
            | 0, hR | 1, hR | 2, hR | 3, hR | 5, hR | 4, hR | 6, hR | 7, hR | 8, hR | 9, hR => exact hR
            | _ + 10, _ => trivial
          · refine ⟨?_, ?_, ?_, ?_, ?_, ?_, ?_, ?_, ?_, ?_, trivial⟩
            all_goals intro ρ wx hE hc hg hf
            · intro h0; exact opOk_move _ rfl ⟨Below.refl _ _, h0⟩
            · intro (h0 : ρ (.tmp 12) = .pointer (some ⟨wr.heap.size, 0, none⟩))
              exact opOk_run (v := .pointer (some ⟨wr.heap.size, 1, none⟩)) (w' := wx) (by go_simp) ⟨Below.refl _ _, rfl⟩
            · intro (h0 : ρ (.tmp 62) = .pointer (some ⟨wr.heap.size, 1, none⟩))
              have c := ((Bo.out.below (below_drew _)).keep (S := []) hE (by simp)).get 1 rfl
              exact opOk_load _ _ rfl _ _ h0 (run_int_at _ _ _ _ c) ⟨Below.refl _ _, rfl⟩
            · intro (h0 : ρ (.tmp 12) = .pointer (some ⟨wr.heap.size, 0, none⟩))
              exact opOk_run (v := .pointer (some ⟨wr.heap.size, 2, none⟩)) (w' := wx) (by go_simp) ⟨Below.refl _ _, rfl⟩
            · intro (h0 : ρ (.tmp 64) = .pointer (some ⟨wr.heap.size, 2, none⟩))
              have c := ((Bo.out.below (below_drew _)).keep (S := []) hE (by simp)).get 2 rfl
              exact opOk_load _ _ rfl _ _ h0 (run_bytes_at _ _ _ _ c) ⟨Below.refl _ _, rfl⟩
            · intro (h0 : ρ (.tmp 12) = .pointer (some ⟨wr.heap.size, 0, none⟩))
              exact opOk_run (v := .pointer (some ⟨wr.heap.size, 2, none⟩)) (w' := wx) (by go_simp) ⟨Below.refl _ _, rfl⟩
            · intro (h0 : ρ (.tmp 66) = .pointer (some ⟨wr.heap.size, 2, none⟩))
              have c := ((Bo.out.below (below_drew _)).keep (S := []) hE (by simp)).get 2 rfl
              exact opOk_load _ _ rfl _ _ h0 (run_bytes_at _ _ _ _ c) ⟨Below.refl _ _, rfl⟩
            · intro (h0 : ρ (.tmp 67) = .slice ao t.length co)
              exact opOk_run (v := .int .i64 (t.length : Int)) (w' := wx) (by go_simp) ⟨Below.refl _ _, rfl⟩
            · intro (h0 : ρ (.tmp 68) = .int .i64 (t.length : Int))
              refine opOk_run (v := .int .i64 (kt : Int)) (w' := wx) ?_ ⟨Below.refl _ _, rfl⟩
              have hkt := Hkt.out
              go_simp
            · intro (h0 : ρ (.tmp 65) = .slice ao t.length co) (h1 : ρ (.tmp 69) = .int .i64 (kt : Int))
              exact opOk_bytes_head _ _ _ rfl 5 under_bytes info_u8 h0 kt h1 (by have := Ht.out.fit'; omega) ⟨Below.refl _ _, rfl⟩
          · intro wz hE
            rintro _ rfl _ rfl _ rfl _ rfl _ rfl _ rfl _ rfl _ rfl _ rfl _ rfl
            simp only [PutLast, Act.put, List.setIfInBounds_toArray, List.set_cons_succ, List.set_cons_zero]
            have hE2 : Below (wr.alloc (.cells #[.int .u8 (dd : Int), .int .i64 i, .slice ao t.length co] 39)).heap.size (wr.alloc (.cells #[.int .u8 (dd : Int), .int .i64 i, .slice ao t.length co] 39)) wz := (below_drew _).trans (hE.below0.mono (Nat.le_refl _))
            have Tz := To.out.below hE2
            refine opOk_call (f := 10) (args := #[.pointer (some ⟨g, 0, none⟩), .int .i64 i, .slice ao kt co]) (by go_simp) ?_
            have htk := Ht.out.take kt
            have hC := sa_write wn wz g s i ao co (t.take kt) Tz hi (htk.below (Bn.out.trans (Tz.2.mono Bn.out.size))) (by have := Kp.out.steps; omega) (by have := Kp.out.ways; omega) (SA.off_old htk Bn.out.size)
            rw [List.length_take, Nat.min_eq_left hkt2] at hC
            refine hC.mono ?_
            rintro e w7 ⟨rfl, h7⟩
            refine ⟨_, rfl, ?_⟩
            have S7 := hid h7
            clear h7 hC Tz hE2 hE
            go_wp2_with fail
            
            have RR : FlsRel wn g (pad p0) l1.length (.int .i64 ((k : Int) + 1)) w7 := ⟨k + 1, _, by go_num, by omega, by omega, S7.out, Kp.out.write i _ H3.out⟩
            refine ⟨?_, by simp [intOf]; omega⟩
            first | exact RR | ((repeat apply Exists.intro); refine ⟨RR, ?_⟩; and_intros <;> rfl)
      · have hq' : (dd : Int) % 4 = 1 := by omega
        clear hq
        by_cases h3 : i = 3
        · have h3' : (i != 3) = false := by simp [h3]
          have H3 := hid h3
          clear h3
          go_wp2_with fail
          have RR : FlsRel wn g (pad p0) l1.length (.int .i64 ((k : Int) + 1)) (wr.alloc (.cells #[.int .u8 (dd : Int), .int .i64 i, .slice ao t.length co] 39)) := ⟨k + 1, _, by go_num, by omega, by omega, To.out, Kp.out.more⟩
          refine ⟨?_, by simp [intOf]; omega⟩
          first | exact RR | ((repeat apply Exists.intro); refine ⟨RR, ?_⟩; and_intros <;> rfl)
        · have h3' : (i != 3) = true := by simpa using h3
          have H3 := hid h3
          clear h3
          go_upto_region 16 with fail
          refine wp_region_chg 12 10 [] (fun idx v w' => match idx with
            | 0 => v = .pointer (some ⟨g, 0, none⟩)
            | 1 => v = .pointer (some ⟨wr.heap.size, 1, none⟩)
            | 2 => v = .int .i64 i
            | 3 | 5 => v = .pointer (some ⟨wr.heap.size, 2, none⟩)
            | 4 | 6 => v = .slice ao t.length co
            | 7 => v = .int .i64 (t.length : Int)
            | 8 => v = .int .i64 (kt : Int)
            | 9 => v = .slice ao kt co
            | _ => True) (by kernel_rfl) (by kernel_rfl) (by kernel_rfl) ?_ ?_ ?_ ?_
          · intro j v wx wy hR hb
            match j, hR with
            | 0, hR | 1, hR | 2, hR | 3, hR | 5, hR | 4, hR | 6, hR | 7, hR | 8, hR | 9, hR => exact hR
            | _ + 10, _ => trivial
          · intro j v wx wy hne hR hb
            match j, hR with
            | 0, hR | 1, hR | 2, hR | 3, hR | 5, hR | 4, hR | 6, hR | 7, hR | 8, hR | 9, hR => exact hR
            | _ + 10, _ => trivial
          · refine ⟨?_, ?_, ?_, ?_, ?_, ?_, ?_, ?_, ?_, ?_, trivial⟩
            all_goals intro ρ wx hE hc hg hf
            · intro h0; exact opOk_move _ rfl ⟨Below.refl _ _, h0⟩
            · intro (h0 : ρ (.tmp 12) = .pointer (some ⟨wr.heap.size, 0, none⟩))
              exact opOk_run (v := .pointer (some ⟨wr.heap.size, 1, none⟩)) (w' := wx) (by go_simp) ⟨Below.refl _ _, rfl⟩
            · intro (h0 : ρ (.tmp 62) = .pointer (some ⟨wr.heap.size, 1, none⟩))
              have c := ((Bo.out.below (below_drew _)).keep (S := []) hE (by simp)).get 1 rfl
              exact opOk_load _ _ rfl _ _ h0 (run_int_at _ _ _ _ c) ⟨Below.refl _ _, rfl⟩
            · intro (h0 : ρ (.tmp 12) = .pointer (some ⟨wr.heap.size, 0, none⟩))
              exact opOk_run (v := .pointer (some ⟨wr.heap.size, 2, none⟩)) (w' := wx) (by go_simp) ⟨Below.refl _ _, rfl⟩
            · intro (h0 : ρ (.tmp 64) = .pointer (some ⟨wr.heap.size, 2, none⟩))
              have c := ((Bo.out.below (below_drew _)).keep (S := []) hE (by simp)).get 2 rfl
              exact opOk_load _ _ rfl _ _ h0 (run_bytes_at _ _ _ _ c) ⟨Below.refl _ _, rfl⟩
            · intro (h0 : ρ (.tmp 12) = .pointer (some ⟨wr.heap.size, 0, none⟩))
              exact opOk_run (v := .pointer (some ⟨wr.heap.size, 2, none⟩)) (w' := wx) (by go_simp) ⟨Below.refl _ _, rfl⟩
            · intro (h0 : ρ (.tmp 66) = .pointer (some ⟨wr.heap.size, 2, none⟩))
              have c := ((Bo.out.below (below_drew _)).keep (S := []) hE (by simp)).get 2 rfl
              exact opOk_load _ _ rfl _ _ h0 (run_bytes_at _ _ _ _ c) ⟨Below.refl _ _, rfl⟩
            · intro (h0 : ρ (.tmp 67) = .slice ao t.length co)
              exact opOk_run (v := .int .i64 (t.length : Int)) (w' := wx) (by go_simp) ⟨Below.refl _ _, rfl⟩
            · intro (h0 : ρ (.tmp 68) = .int .i64 (t.length : Int))
              refine opOk_run (v := .int .i64 (kt : Int)) (w' := wx) ?_ ⟨Below.refl _ _, rfl⟩
              have hkt := Hkt.out
              go_simp
            · intro (h0 : ρ (.tmp 65) = .slice ao t.length co) (h1 : ρ (.tmp 69) = .int .i64 (kt : Int))
              exact opOk_bytes_head _ _ _ rfl 5 under_bytes info_u8 h0 kt h1 (by have := Ht.out.fit'; omega) ⟨Below.refl _ _, rfl⟩
          · intro wz hE
            rintro _ rfl _ rfl _ rfl _ rfl _ rfl _ rfl _ rfl _ rfl _ rfl _ rfl
            simp only [PutLast, Act.put, List.setIfInBounds_toArray, List.set_cons_succ, List.set_cons_zero]
            have hE2 : Below (wr.alloc (.cells #[.int .u8 (dd : Int), .int .i64 i, .slice ao t.length co] 39)).heap.size (wr.alloc (.cells #[.int .u8 (dd : Int), .int .i64 i, .slice ao t.length co] 39)) wz := (below_drew _).trans (hE.below0.mono (Nat.le_refl _))
            have Tz := To.out.below hE2
            refine opOk_call (f := 10) (args := #[.pointer (some ⟨g, 0, none⟩), .int .i64 i, .slice ao kt co]) (by go_simp) ?_
            have htk := Ht.out.take kt
            have hC := sa_write wn wz g s i ao co (t.take kt) Tz hi (htk.below (Bn.out.trans (Tz.2.mono Bn.out.size))) (by have := Kp.out.steps; omega) (by have := Kp.out.ways; omega) (SA.off_old htk Bn.out.size)
            rw [List.length_take, Nat.min_eq_left hkt2] at hC
            refine hC.mono ?_
            rintro e w7 ⟨rfl, h7⟩
            refine ⟨_, rfl, ?_⟩
            have S7 := hid h7
            clear h7 hC Tz hE2 hE
            go_wp2_with fail
            
            have RR : FlsRel wn g (pad p0) l1.length (.int .i64 ((k : Int) + 1)) w7 := ⟨k + 1, _, by go_num, by omega, by omega, S7.out, Kp.out.write i _ H3.out⟩
            refine ⟨?_, by simp [intOf]; omega⟩
            first | exact RR | ((repeat apply Exists.intro); refine ⟨RR, ?_⟩; and_intros <;> rfl)
      · have hq' : (dd : Int) % 4 = 2 := by omega
        clear hq
        go_wp2_with fail
        refine (sa_arm wn _ g s i To.out (by omega)).mono ?_
        rintro e w7 ⟨rfl, h7⟩
        have S7 := hid h7
        clear h7
        go_wp2_with fail
        have RR : FlsRel wn g (pad p0) l1.length (.int .i64 ((k : Int) + 1)) w7 := ⟨k + 1, _, by go_num, by omega, by omega, S7.out, Kp.out.arm i⟩
        refine ⟨?_, by simp [intOf]; omega⟩
        first | exact RR | ((repeat apply Exists.intro); refine ⟨RR, ?_⟩; and_intros <;> rfl)
      · have hq' : (dd : Int) % 4 = 3 := by omega
        clear hq
        go_wp2_with fail
        refine (sa_flush wn _ g s To.out (by have := Kp.out.steps; omega)).mono ?_
        rintro e w7 ⟨rfl, h7⟩
        have S7 := hid h7
        clear h7
        go_wp2_with fail
        have RR : FlsRel wn g (pad p0) l1.length (.int .i64 ((k : Int) + 1)) w7 := ⟨k + 1, _, by go_num, by omega, by omega, S7.out, Kp.out.flush⟩
        refine ⟨?_, by simp [intOf]; omega⟩
        first | exact RR | ((repeat apply Exists.intro); refine ⟨RR, ?_⟩; and_intros <;> rfl)
    · by_cases hkl : k < l1.length
      · obtain ⟨bo, off, rfl, hc⟩ := cs_row opV_length Hcs.out hkl (by decide)
        have W5 := Bn.out.trans (T.out.2.mono Bn.out.size)
        have d0 := cell_later W5 (hc 0 _ rfl)
        have d1 := cell_later W5 (hc 1 _ rfl)
        have d2 := cell_later W5 (hc 2 _ rfl)
        clear hc W5
        generalize l1[k] = o at d0 d1 d2
        obtain ⟨dd, i, ao, co, t⟩ := o
        dsimp only at d0 d1 d2
        have hkl' : (k : Int) < (l1.length : Int) := by omega
        have h30' : (30 : Int) ≤ (k : Int) := by omega
        rw [Nat.add_zero] at d0
        have To := hid (T.out.below (below_alloc wr (.cells #[.int .u8 (dd : Int), .int .i64 i, .slice ao t.length co] 39)))
        go_wp2_with fail
        generalize wr.alloc (.cells #[.int .u8 (dd : Int), .int .i64 i, .slice ao t.length co] 39) = wq at To ⊢
        clear T
        have T := To
        refine (sa_crash wn _ g s a2 c2 l2 cut T.out (F2.out.below (Bn.out.trans (T.out.2.mono Bn.out.size))) (SA.off_old F2.out Bn.out.size) hcut).mono ?_
        rintro e w8 ⟨rfl, h8⟩
        have S8 := hid h8
        clear h8
        go_wp2_with fail
        refine (sa_read wn _ g _ 3 S8.out (by omega)).mono ?_
        rintro e w9 ⟨v, he, hv, hb, h9⟩
        rw [(Kp.out.end' l2 cut)] at he hv
        subst he
        obtain ⟨ap, cpp, rfl, hbs, hop⟩ := hv.bs
        have PV := hid hbs
        have W9 := hid (Bn.out.trans (h9.2.mono Bn.out.size))
        clear hbs hop hb hv h9
        dsimp only
        have E0 := hid (show p0 ++ List.replicate (128 - k0) 0 = pad p0 from by unfold pad; rw [L0.out])
        go_wp2_with (first
          | (at_builtin; refine wpList_append_lit0 (.tmp 92) (.tmp 93) _ rfl rfl 5 info_u8 under_bytes rfl (V0.out.below W9.out) k0 L0.out rfl (by rw [L0.out]; omega) ?_; intro v10 w10 ho10 hb10; have O10 := hid ho10; have B10 := hid hb10; clear ho10 hb10)
          | (at_builtin; refine wpList_append_zeros_b (.tmp 94) (.tmp 97) 22 3 rfl rfl w9.heap.size 5 .i64 info_u8 under_bytes (by kernel_rfl) _ p0 O10.out rfl (128 - k0) (show _ = Value.int .i64 (((128 - k0 : Nat)) : Int) from congrArg (Value.int .i64) (by omega)) (by rw [L0.out]; omega) B10.out.size ?_; intro v11 w11 ho11 hg11 hx11; have B11 := hid (B10.out.trans (grownBy_below hg11 B10.out.size O10.out.ownBlock)); rw [E0.out] at ho11; obtain ⟨aA, cA, e11, hbs, hof⟩ := ho11.bs; subst e11; have PA := hid hbs; clear hbs hof ho11 hg11 hx11))
        refine (same_calls _ _ _ _ _ _ _ (PV.out.below B11.out) PA.out).mono ?_
        rintro e w' ⟨rfl, rfl⟩
        go_wp2_with fail
        go_ret
        exact ⟨by simp, W9.out.trans (B11.out.mono W9.out.size)⟩
      · have hkl' : ¬ ((k : Int) < (l1.length : Int)) := by omega
        go_wp2_with fail
        refine (sa_crash wn _ g s a2 c2 l2 cut T.out (F2.out.below (Bn.out.trans (T.out.2.mono Bn.out.size))) (SA.off_old F2.out Bn.out.size) hcut).mono ?_
        rintro e w8 ⟨rfl, h8⟩
        have S8 := hid h8
        clear h8
        go_wp2_with fail
        refine (sa_read wn _ g _ 3 S8.out (by omega)).mono ?_
        rintro e w9 ⟨v, he, hv, hb, h9⟩
        rw [(Kp.out.end' l2 cut)] at he hv
        subst he
        obtain ⟨ap, cpp, rfl, hbs, hop⟩ := hv.bs
        have PV := hid hbs
        have W9 := hid (Bn.out.trans (h9.2.mono Bn.out.size))
        clear hbs hop hb hv h9
        dsimp only
        have E0 := hid (show p0 ++ List.replicate (128 - k0) 0 = pad p0 from by unfold pad; rw [L0.out])
        go_wp2_with (first
          | (at_builtin; refine wpList_append_lit0 (.tmp 92) (.tmp 93) _ rfl rfl 5 info_u8 under_bytes rfl (V0.out.below W9.out) k0 L0.out rfl (by rw [L0.out]; omega) ?_; intro v10 w10 ho10 hb10; have O10 := hid ho10; have B10 := hid hb10; clear ho10 hb10)
          | (at_builtin; refine wpList_append_zeros_b (.tmp 94) (.tmp 97) 22 3 rfl rfl w9.heap.size 5 .i64 info_u8 under_bytes (by kernel_rfl) _ p0 O10.out rfl (128 - k0) (show _ = Value.int .i64 (((128 - k0 : Nat)) : Int) from congrArg (Value.int .i64) (by omega)) (by rw [L0.out]; omega) B10.out.size ?_; intro v11 w11 ho11 hg11 hx11; have B11 := hid (B10.out.trans (grownBy_below hg11 B10.out.size O10.out.ownBlock)); rw [E0.out] at ho11; obtain ⟨aA, cA, e11, hbs, hof⟩ := ho11.bs; subst e11; have PA := hid hbs; clear hbs hof ho11 hg11 hx11))
        refine (same_calls _ _ _ _ _ _ _ (PV.out.below B11.out) PA.out).mono ?_
        rintro e w' ⟨rfl, rfl⟩
        go_wp2_with fail
        go_ret
        exact ⟨by simp, W9.out.trans (B11.out.mono W9.out.size)⟩

theorem slabFlushes_row (a0 : Option Addr) (c0 : Nat) (l0 : List UInt8) (v1 : Value) (a2 : Option Addr) (c2 : Nat) (l2 : List UInt8) (cut : Int) (w : World) (h0 : BS w a0 c0 l0) (h1 : RV Try.prog w 35 v1) (h2 : BS w a2 c2 l2) (hc : (Lit.int .i64 cut).wf = true) :
    Calls Try.prog 5 #[.slice a0 l0.length c0, v1, .slice a2 l2.length c2, .int .i64 cut] w fun e w' => e = .returned (.bool true) ∧ Below w.heap.size w w' :=
  slabFlushes_walk a0 c0 l0 v1 a2 c2 l2 cut w h0 h1 h2 hc
end Go.Proofs.Ytoegnlabneafkaa
