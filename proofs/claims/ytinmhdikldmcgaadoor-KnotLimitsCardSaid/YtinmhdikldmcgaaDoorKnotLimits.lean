/- The walk of KnotLimits: so long a text and no longer. -/
import Derived.Test.YtinmhdikldmcgaaDoorKnotG
import Derived.Test.YtinmhdikldmcgaaDoorKnotApart
namespace Go.Proofs.YtinmhdikldmcgaaDoor
open Go.RowKit Go.Quad _root_.Quad

def filledB (b : UInt8) (K i : Nat) : List UInt8 := List.replicate i b ++ List.replicate (K - i) 0
theorem filledB_length (b : UInt8) (K i : Nat) (h : i ≤ K) : (filledB b K i).length = K := by simp [filledB]; omega
theorem filledB_succ (b : UInt8) (K i : Nat) (h : i < K) : (filledB b K i).set i b = filledB b K (i + 1) := by
  unfold filledB
  rw [List.set_append_right _ _ (by simp), List.length_replicate, Nat.sub_self, show K - i = (K - (i + 1)) + 1 from by omega, List.replicate_succ, List.set_cons_zero, List.replicate_succ', List.append_assoc]
  rfl

def LimRel (b : UInt8) (K : Nat) (w : World) (g : Nat) (i : Value) (wr : World) : Prop :=
  ∃ k : Nat, k ≤ K ∧ i = .int .i64 k ∧ wr.ownsRow w.heap.size 5 1 (.slice (some ⟨g, 0, none⟩) K K) K ((filledB b K k).map u8v) ∧ Below w.heap.size w wr

set_option maxHeartbeats 1000000 in
theorem knotLimits_walk (x y : Int) (w : World) (hx : (Lit.int .u8 x).wf = true) (hy : (Lit.int .u8 y).wf = true) (hq : Laid w) :
    Calls Tryd.prog 9 #[.int .u8 x, .int .u8 y] w fun e w' => e = .returned (.bool true) ∧ Below w.heap.size w w' := by
  obtain ⟨n, rfl, hn⟩ := nat_of_u8 hx
  obtain ⟨c, rfl, hc⟩ := nat_of_u8 hy
  obtain ⟨b, hb⟩ : ∃ b : UInt8, b.toNat = c := ⟨UInt8.ofNat c, by simp; omega⟩
  obtain ⟨K, hK⟩ : ∃ K : Nat, K = 2046 + n % 5 := ⟨_, rfl⟩
  have hKI : (2046 : Int) + (n : Int) % 5 = (K : Int) := by omega
  have hK1 : 2046 ≤ K := by omega
  have hK2 : K ≤ 2050 := by omega
  have hcb : (c : Int) ≤ 255 := by omega
  have hnb : (n : Int) ≤ 255 := by omega
  obtain ⟨i0, hi, hz0, hz1, hz2⟩ := info_parts info_u8
  have Hi := hid hi; have Hz0 := hid hz0; have Hz1 := hid hz1; have Hz2 := hid hz2
  have Hb := hid hb
  have Hq := hid hq
  clear hi hz0 hz1 hz2 hK hb hq hx hy hn hc
  go_enter Tryd.func9, Tryd.ntmps9
  go_wp2_with fail
  refine (awake_calls w Hq.out).mono ?_
  rintro e w1 ⟨rfl, hb1⟩
  have Hb1 := hid hb1
  clear hb1
  go_wp2_with (at_make; refine wpList_make_full _ rfl (.tmp 20) (.tmp 20) _ rfl w.heap.size 5 i0 (.int .u8 0) 1 under_bytes Hi.out Hz0.out Hz1.out .i64 .i64 _ _ K rfl rfl rfl rfl (by rw [Hz2.out]; omega) (by unfold maxLen; omega) Hb1.out.size ?_; intro w2 hown hgr)
  have hb2 := Hb1.out.trans (grownBy_below hgr Hb1.out.size (by simp))
  have hown1 := row_made w2 rfl hown
  generalize w1.heap.size = g at hown1
  clear hown hgr
  go_loopw [7, 24] (fun _ i wr => LimRel b K w g i wr) (fun _ i _ => K - (intOf i).toNat)
  case atStart => exact ⟨0, by omega, rfl, by simpa [filledB, u8v] using hown1, hb2⟩
  case round =>
    clear hown1 hb2
    obtain ⟨k, hk, rfl, hown, hb⟩ := hrel
    by_cases hlt : k < K
    · have hlen := filledB_length b K k hk
      obtain ⟨hc1, hf1⟩ := row_at hown k hlt (map_u8_get (by omega))
      have Hs := hid (row_store hown k (u8v b))
      rw [map_u8_set, filledB_succ b K k hlt] at Hs
      unfold u8v at hc1 Hs
      rw [Hb.out] at Hs
      have Hbl := hid hb
      clear hown hb hlen
      go_wp2_with fail
      have R : LimRel b K w g (.int .i64 ((k : Int) + 1)) (wr.setCell ⟨g, k, none⟩ (.int .u8 (c : Int))) :=
        ⟨k + 1, by omega, by go_num, Hs.out.1, Hbl.out.trans Hs.out.2⟩
      refine ⟨?_, by simp [intOf]; omega⟩
      first | exact R | ((repeat apply Exists.intro); refine ⟨R, ?_⟩; and_intros <;> rfl)
    · obtain rfl : k = K := by omega
      have ef : filledB b k k = List.replicate k b := by simp [filledB]
      rw [ef] at hown
      have hlr : (List.replicate k b).length = k := List.length_replicate
      have ho : OB wr w.heap.size 5 (.slice (some ⟨g, 0, none⟩) k k) (List.replicate k b) := by
        unfold OB; rw [hlr]; exact hown
      have Hlr := hid hlr
      have Ho := hid ho
      have hs : BS wr (some ⟨g, 0, none⟩) k (List.replicate k b) := by
        obtain ⟨a1, c1, e1, h1, _⟩ := ho.bs
        simp only [Value.slice.injEq] at e1
        obtain ⟨rfl, _, rfl⟩ := e1
        exact h1
      have Hs := hid hs
      have Hbl := hid hb
      have Hqr := hid (Hq.out.below hb Hq.out.1)
      clear hlr ho hs hb hown hlt hk ef
      by_cases hbig : 2048 < k
      · have hbig' : (2048 : Int) < (k : Int) := by omega
        go_wp2_with fail
        refine (tie_long_calls _ _ _ _ hbig (by omega)).mono ?_
        rintro e w' ⟨rfl, rfl⟩
        have hgl : g < wr.heap.size := by
          have := (World.ownsRow.lt Ho.out g rfl).2
          exact this
        have hA := OB.lit (w := wr) (base := wr.heap.size) 5 [UInt8.ofNat k, UInt8.ofNat (k / 256)] (Nat.le_refl _) (by simp [maxLen])
        have eA : ([UInt8.ofNat k, UInt8.ofNat (k / 256)].map u8v).toArray = #[.int .u8 ((k : Int) % 256), .int .u8 ((k : Int) / 256)] := by
          simp only [List.map_cons, List.map_nil, u8v_of]
          rw [Nat.mod_eq_of_lt (show k / 256 < 256 by omega)]
          rfl
        rw [eA] at hA
        have hownT := OB.below (OB.below Ho.out (below_alloc wr (.cells #[.int .u8 ((k : Int) % 256), .int .u8 ((k : Int) / 256)] 5))) (below_alloc (wr.alloc (.cells #[.int .u8 ((k : Int) % 256), .int .u8 ((k : Int) / 256)] 5)) (.cells #[.int .u8 0, .int .u8 0, .int .u8 0, .int .u8 0] 5))
        have hA2 := hid (OB.below hA (below_alloc (wr.alloc (.cells #[.int .u8 ((k : Int) % 256), .int .u8 ((k : Int) / 256)] 5)) (.cells #[.int .u8 0, .int .u8 0, .int .u8 0, .int .u8 0] 5)))
        have hZ : BS ((wr.alloc (.cells #[.int .u8 ((k : Int) % 256), .int .u8 ((k : Int) / 256)] 5)).alloc (.cells #[.int .u8 0, .int .u8 0, .int .u8 0, .int .u8 0] 5)) (some ⟨wr.heap.size + 1, 0, none⟩) 4 [0, 0, 0, 0] := by
          have := lit_bs (wr.alloc (.cells #[.int .u8 ((k : Int) % 256), .int .u8 ((k : Int) / 256)] 5)) 5 [0, 0, 0, 0] (by simp [maxLen])
          simpa [u8v] using this
        have HbA := hid (Hbl.out.trans ((below_step (below_alloc wr (.cells #[.int .u8 ((k : Int) % 256), .int .u8 ((k : Int) / 256)] 5)) (below_alloc (wr.alloc (.cells #[.int .u8 ((k : Int) % 256), .int .u8 ((k : Int) / 256)] 5)) (.cells #[.int .u8 0, .int .u8 0, .int .u8 0, .int .u8 0] 5))).mono Hbl.out.size))
        have Hgl := hid hgl
        clear hA eA hgl
        go_wp2_with (first | (at_builtin; refine wpList_append_b (.tmp 46) (.tmp 47) _ rfl rfl _ 5 info_u8 under_bytes _ _ hownT rfl hZ rfl (by rw [Hlr.out]; simp; omega) HbA.out.size ?_; intro v48 w3 hown48 hg48 hb48 _; obtain ⟨a48, c48, e48, hs48, _⟩ := OB.bs hown48; have hA3 := hid (World.ownsRow.kept (OB.base hA2.out Hbl.out.size) hg48 (by right; simp [Value.ownBlock]; have := Hgl.out; omega)); have HS48 := hid hs48; clear hs48 hown48 hg48; subst e48) | (at_builtin; refine wpList_append_b (.tmp 45) (.tmp 48) _ rfl rfl w.heap.size 5 info_u8 under_bytes _ _ hA3.out rfl HS48.out rfl (by rw [List.length_append, Hlr.out]; simp; omega) (HbA.out.trans hb48).size ?_; intro v49 w4 hown49 hg49 hb49 _; have Hb49 := hid ((HbA.out.trans hb48).trans hb49); obtain ⟨a49, c49, rfl, hs49, _⟩ := OB.bs hown49; have HS49 := hid hs49; clear hg49 hown49 hs49))
        have hl49 : ([UInt8.ofNat k, UInt8.ofNat (k / 256)] ++ (List.replicate k b ++ [0, 0, 0, 0])).length = k + 4 + 1 + 1 := by simp
        have hlong : untieL ([UInt8.ofNat k, UInt8.ofNat (k / 256)] ++ (List.replicate k b ++ [0, 0, 0, 0])) = ([], 3) := by
          have hnx : nextL ([UInt8.ofNat k, UInt8.ofNat (k / 256)] ++ (List.replicate k b ++ [0, 0, 0, 0])) = ([], [], 3) := by
            refine nextL_long _ (by rw [hl49]; omega) ?_
            unfold lenL
            simp only [List.cons_append, List.getD_cons_zero, List.getD_cons_succ, UInt8.toNat_ofNat']
            omega
          unfold untieL
          rw [hnx]
          rfl
        have un := untie_calls a49 c49 _ w4 HS49.out (Hq.out.below Hb49.out Hq.out.1) (by rw [hl49]; omega)
        rw [hl49, hlong] at un
        refine un.mono ?_
        rintro e w5 ⟨v5, rfl, _, hb5⟩
        have Hb5 := hid (Hb49.out.trans (hb5.mono Hb49.out.size))
        clear un hl49 hlong hb5
        go_wp2_with fail
        go_ret
        exact ⟨rfl, Hb5.out⟩
      · have hbig' : (k : Int) ≤ 2048 := by omega
        go_wp2_with fail
        have ti := tie_calls _ _ _ wr Hs.out Hqr.out (by rw [Hlr.out]; omega)
        rw [Hlr.out] at ti
        refine ti.mono ?_
        rintro e w3 ⟨v3, rfl, ho3, hb3⟩
        clear ti
        obtain ⟨a3, c3, rfl, hs3, _⟩ := ho3.bs
        have Hs3 := hid hs3
        have Hb3 := hid (Hbl.out.trans (hb3.mono Hbl.out.size))
        have Hst := hid (Hs.out.below hb3)
        have Hq3 := hid (Hq.out.below Hb3.out Hq.out.1)
        clear ho3 hs3 hb3
        go_wp2_with fail
        refine (untie_calls _ _ _ _ Hs3.out Hq3.out (by rw [tieL_length, Hlr.out]; omega)).mono ?_
        rw [untieL_tie _ (by rw [Hlr.out]; omega)]
        rintro e w5 ⟨v5, rfl, ho5, hb5⟩
        obtain ⟨a5, c5, e5, hs5, _⟩ := ho5.bs
        rw [Hlr.out] at e5
        subst e5
        have Hs5 := hid hs5
        have Hst5 := hid (Hst.out.below hb5)
        have Hb5 := hid (Hb3.out.trans (hb5.mono Hb3.out.size))
        clear ho5 hs5 hb5
        go_wp2_with fail
        have sm := same_calls _ _ _ _ _ _ w5 Hs5.out Hst5.out
        rw [Hlr.out] at sm
        refine sm.mono ?_
        rintro e w' ⟨rfl, rfl⟩
        clear sm
        rw [beq_self_eq_true]
        go_wp2_with fail
        go_ret
        exact ⟨rfl, Hb5.out⟩
end Go.Proofs.YtinmhdikldmcgaaDoor
