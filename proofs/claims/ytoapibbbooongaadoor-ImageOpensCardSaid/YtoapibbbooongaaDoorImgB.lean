/- The walks of layer 8: a head's bytes; may it be done. -/
import Derived.Test.YtoapibbbooongaaDoorImgM
import Derived.Test.YtoapibbbooongaaDoorImgA
import Derived.Test.YtoapibbbooongaaDoorBlkC
import Derived.Test.YtoapibbbooongaaDoorZeros
namespace Go.Proofs.YtoapibbbooongaaDoor
open Go.RowKit Go.Quad _root_.Quad _root_.Quad.Slab

def headL (c n : Nat) (l : List Nat) : List UInt8 := [UInt8.ofNat c, UInt8.ofNat (c / 256), 0, 0, UInt8.ofNat n] ++ l.flatMap fun i => [UInt8.ofNat i, UInt8.ofNat (i / 256)]
theorem headL_head (x : Img) (k : Nat) : headL x.credit.toNat x.blobs.length (x.at'.take k) = headD x k := rfl
def HdRel (W : World) (B c n : Nat) (l : List Nat) (iv pv : Value) (wr : World) : Prop := ∃ k : Nat, iv = .int .i64 (k : Int) ∧ k ≤ l.length ∧ OB wr B 5 pv (headL c n (l.take k)) ∧ Below W.heap.size W wr
theorem headL_succ (c n : Nat) (l : List Nat) (k : Nat) (hk : k < l.length) : headL c n (l.take (k + 1)) = headL c n (l.take k) ++ [UInt8.ofNat (l.getD k 0), UInt8.ofNat (l.getD k 0 / 256)] := by
  unfold headL
  rw [List.take_succ_eq_append_getElem hk, List.flatMap_append, List.append_assoc, getD_in hk]
  rfl
theorem u8_lo (n : Nat) : (Value.int .u8 ((n : Int) % 256)) = u8v (UInt8.ofNat n) := by
  unfold u8v
  rw [UInt8.toNat_ofNat']
  congr 1
theorem u8_hi (n : Nat) (h : n < 65536) : (Value.int .u8 ((n : Int) / 256)) = u8v (UInt8.ofNat (n / 256)) := by
  unfold u8v
  rw [UInt8.toNat_ofNat', Nat.mod_eq_of_lt (by omega)]
  congr 1
theorem two_bytes (w : World) (n : Nat) (h : n < 65536) : BS (w.alloc (.cells #[.int .u8 ((n : Int) % 256), .int .u8 ((n : Int) / 256)] 5)) (some ⟨w.heap.size, 0, none⟩) 2 [UInt8.ofNat n, UInt8.ofNat (n / 256)] := by
  rw [u8_lo, u8_hi n h]
  exact cs_lit w ([UInt8.ofNat n, UInt8.ofNat (n / 256)].map u8v) 5 2 1 rfl (by simp [maxLen])
theorem head_row (w : World) (c n : Nat) (hc : c ≤ 10000) (hn : n ≤ 16) : OB (w.alloc (.cells #[.int .u8 ((c : Int) % 256), .int .u8 ((c : Int) / 256), .int .u8 ((c : Int) / 65536), .int .u8 ((c : Int) / 16777216), .int .u8 (n : Int)] 5)) w.heap.size 5 (.slice (some ⟨w.heap.size, 0, none⟩) 5 5) (headL c n []) := by
  rw [u8_lo, u8_hi c (by omega), show ((c : Int) / 65536) = ((0 : Nat) : Int) by omega, show ((c : Int) / 16777216) = ((0 : Nat) : Int) by omega, ← u8v_of' n (by omega)]
  exact OB.lit 5 (headL c n []) (Nat.le_refl _) (by simp [headL, maxLen])
set_option maxRecDepth 100000 in
set_option maxHeartbeats 2000000 in
theorem head_calls (w : World) (Q : Nat → Prop) (job ver : Nat) (c : Nat) (ba : Option Addr) (bn bc : Nat) (a : Option Addr) (n cap : Nat) (l : List Nat) (h : AL w Q (.slice a n cap) l) (hc : c ≤ 10000) (hb : bn ≤ 16) (hl : l.length ≤ 16) (hs : ∀ i ∈ l, i < 65536) :
    Calls Tryd.prog 91 #[.agg #[.int .u32 (job : Int), .int .u32 (ver : Int), .int .i64 (c : Int), .slice ba bn bc], .slice a n cap] w fun e w' => ∃ v, e = .returned v ∧ OB w' w.heap.size 5 v (headL c bn l) ∧ Below w.heap.size w w' := by
  have H := hid h
  have hc' : (c : Int) ≤ 10000 := by omega
  have hb' : (bn : Int) ≤ 16 := by omega
  have HS := hid hs
  obtain rfl : n = l.length := h.len.1
  clear h hs
  go_enter Tryd.func91, Tryd.ntmps91
  go_upto_region 3 with fail
  have hr := head_row (w.alloc (.cells #[.int .u32 (job : Int), .int .u32 (ver : Int), .int .i64 (c : Int), .slice ba bn bc] 36)) c bn hc hb
  have hb2 := (below_alloc w (.cells #[.int .u32 (job : Int), .int .u32 (ver : Int), .int .i64 (c : Int), .slice ba bn bc] 36))
  have hb3 := hb2.trans ((below_alloc (w.alloc (.cells #[.int .u32 (job : Int), .int .u32 (ver : Int), .int .i64 (c : Int), .slice ba bn bc] 36)) (.cells #[.int .u8 ((c : Int) % 256), .int .u8 ((c : Int) / 256), .int .u8 ((c : Int) / 65536), .int .u8 ((c : Int) / 16777216), .int .u8 (bn : Int)] 5)).mono hb2.size)
  have R := hid (show OB _ w.heap.size 5 (.slice (some ⟨w.heap.size + 1, 0, none⟩) 5 5) (headL c bn []) from by have h5 := hr.base hb2.size; rwa [show (w.alloc (.cells #[.int .u32 (job : Int), .int .u32 (ver : Int), .int .i64 (c : Int), .slice ba bn bc] 36)).heap.size = w.heap.size + 1 from by simp] at h5)
  have B3 := hid hb3
  clear hr hb2 hb3
  generalize ((w.alloc (.cells #[.int .u32 (job : Int), .int .u32 (ver : Int), .int .i64 (c : Int), .slice ba bn bc] 36)).alloc (.cells #[.int .u8 ((c : Int) % 256), .int .u8 ((c : Int) / 256), .int .u8 ((c : Int) / 65536), .int .u8 ((c : Int) / 16777216), .int .u8 (bn : Int)] 5)) = w2 at R B3 ⊢
  go_wp2_with fail
  go_loopw [6, 8, 29] (fun pv _ iv wr => HdRel w w.heap.size c bn l iv pv wr) (fun _ _ iv _ => l.length - (intOf iv).toNat)
  case atStart => exact ⟨0, rfl, Nat.zero_le _, by rw [List.take_zero]; exact R.out, B3.out⟩
  case round =>
    obtain ⟨k, rfl, hk, ho, hbw⟩ := hrel
    have O := hid ho
    have BW := hid hbw
    have hkl : (l.length : Int) ≤ 16 := by omega
    clear ho hbw
    by_cases hlt : k < l.length
    · have hlt' : (k : Int) < (l.length : Int) := by omega
      obtain ⟨b, off, rfl, hq, hcell⟩ := H.out.at hlt
      have hw := HS.out (l.getD k 0) (by rw [getD_in hlt]; exact List.getElem_mem hlt)
      have d := cell_later BW.out hcell
      have SU := hid (headL_succ c bn l k hlt)
      generalize l.getD k 0 = pk at hw d SU
      have hw' : (pk : Int) ≤ 65535 := by omega
      have hln : (headL c bn (l.take k)).length ≤ 40 := by
        unfold headL
        rw [List.length_append, flat2_len, List.length_take]
        show 5 + _ ≤ _
        omega
      have HL := hid hln
      have HW := hid hw
      obtain ⟨q, hqq⟩ : ∃ q, headL c bn (l.take k) = q := ⟨_, rfl⟩
      rw [hqq] at O SU HL
      obtain ⟨av, cv, rfl, hbs, _⟩ := O.out.bs
      clear hbs hcell hq hw hqq hln
      go_wp2_with (at_builtin; refine wpList_append_at (.tmp 33) (.tmp 39) 33 rfl rfl w.heap.size 5 info_u8 under_bytes _ q (O.out.below (below_alloc wr _)) rfl (two_bytes wr pk HW.out) rfl (by have := HL.out; show q.length + 2 ≤ _; omega) (Nat.le_trans BW.out.size (below_alloc wr _).size) ?_; intro v4 w4 ho4 hg4 hob4; have O4 := hid ho4; have G4 := hid hg4; clear ho4 hg4 hob4)
      have e1 : headL c bn (l.take (k + 1)) = q ++ [UInt8.ofNat pk, UInt8.ofNat (pk / 256)] := SU.out
      have bA := below_alloc wr (.cells #[.int .u8 ((pk : Int) % 256), .int .u8 ((pk : Int) / 256)] 5)
      have b4 : Below w.heap.size w w4 := (BW.out.trans (bA.mono BW.out.size)).trans (grownBy_below G4.out (Nat.le_trans BW.out.size bA.size) fun j hj => (World.ownsRow.lt (O.out.below bA) j hj).1)
      have RR : HdRel w w.heap.size c bn l (.int .i64 ((k : Int) + 1)) v4 w4 := ⟨k + 1, rfl, hlt, by rw [e1]; exact O4.out, b4⟩
      exact ⟨RR, by simp only [intOf]; omega⟩
    · have hlt' : ¬ ((k : Int) < (l.length : Int)) := by omega
      obtain rfl : k = l.length := by omega
      go_wp2_with fail
      go_ret
      rw [List.take_length] at O
      exact ⟨_, rfl, O.out, BW.out⟩
theorem nilright1_calls (w : World) (a : Option Addr) (n c : Nat) (hn : (n : Int) ≤ 9223372036854775807) : Calls Tryd.prog 89 #[.slice a n c] w fun e w' => e = .returned (.bool (decide (103 < n))) ∧ w = w' := by
  by_cases h : (103 : Int) < (n : Int)
  · have e1 : decide (103 < n) = true := by simp; omega
    rw [e1]
    go_enter Tryd.func89, Tryd.ntmps89
    go_wp2_with fail
    go_ret
    exact ⟨rfl, rfl⟩
  · have e1 : decide (103 < n) = false := by simp; omega
    rw [e1]
    go_enter Tryd.func89, Tryd.ntmps89
    go_wp2_with fail
    go_ret
    exact ⟨rfl, rfl⟩
/-- which is the first long one -/
def CfRel (l : List (List UInt8)) (w : World) (iv : Value) (wr : World) : Prop := ∃ k : Nat, iv = .int .i64 (k : Int) ∧ k ≤ l.length ∧ (∀ j, j < k → (l.getD j []).length ≤ 103) ∧ wr = w
theorem any_long {l : List (List UInt8)} : l.any (fun b => decide (103 < b.length)) = true ↔ ∃ j, j < l.length ∧ 103 < (l.getD j []).length := by
  rw [List.any_eq_true]
  constructor
  · rintro ⟨b, hb, h⟩
    obtain ⟨j, hj, rfl⟩ := List.getElem_of_mem hb
    exact ⟨j, hj, by rw [getD_in hj]; simpa using h⟩
  · rintro ⟨j, hj, h⟩
    exact ⟨l[j], List.getElem_mem hj, by rw [getD_in hj] at h; simpa using h⟩
def CfTo (w : World) (l : List (List UInt8)) (e : Ending) (w' : World) : Prop := ∃ i : Int, e = .returned (.int .i64 i) ∧ decide (0 ≤ i) = l.any (fun b => decide (103 < b.length)) ∧ w' = w
set_option maxRecDepth 100000 in
set_option maxHeartbeats 1000000 in
theorem idxf_calls (w : World) (Q : Nat → Prop) (a : Option Addr) (n c : Nat) (l : List (List UInt8)) (h : BL w Q (.slice a n c) l) (hl : l.length ≤ 1000000) :
    Calls Tryd.prog 107 #[.slice a n c, .func (.func 89) #[] #[]] w (CfTo w l) := by
  have H := hid h
  obtain rfl : n = l.length := h.len.1
  have hl' : (l.length : Int) ≤ 1000000 := by omega
  clear h
  go_enter Tryd.func107, Tryd.ntmps107
  go_wp2_with fail
  go_loopw [5, 8] (fun _ iv wr => CfRel l w iv wr) (fun _ iv _ => l.length - (intOf iv).toNat)
  case atStart => exact ⟨0, rfl, Nat.zero_le _, fun j hj => by omega, rfl⟩
  case round =>
    obtain ⟨k, rfl, hk, hno, rfl⟩ := hrel
    have NO := hid hno
    clear hno
    by_cases hlt : k < l.length
    · have hlt' : (k : Int) < (l.length : Int) := by omega
      obtain ⟨b, off, rfl, hq, v, hcell, htx⟩ := H.out.at hlt
      obtain ⟨a', c', rfl, hbs, _⟩ := htx
      have hm := hbs.max'
      have hC := hid (nilright1_calls wr a' (l.getD k []).length c' (by omega))
      clear hbs hq
      by_cases he : 103 < (l.getD k []).length
      · rw [decide_eq_true he] at hC
        have e2 : l.any (fun b => decide (103 < b.length)) = true := any_long.2 ⟨k, hlt, he⟩
        clear he
        generalize (l.getD k []).length = m at hC hcell
        go_wp2_with (go_at_call 89; refine hC.out.mono ?_; rintro e w2 ⟨rfl, rfl⟩; dsimp only)
        go_ret
        exact ⟨(k : Int), rfl, by rw [e2]; simp, rfl⟩
      · rw [decide_eq_false he] at hC
        have HE := hid he
        clear he
        generalize (l.getD k []).length = m at hC hcell
        go_wp2_with (go_at_call 89; refine hC.out.mono ?_; rintro e w2 ⟨rfl, rfl⟩; dsimp only)
        have R : CfRel l wr (.int .i64 ((k : Int) + 1)) wr := ⟨k + 1, rfl, hlt, fun j hj => by
          rcases Nat.lt_or_ge j k with h | h
          · exact NO.out j h
          · obtain rfl : j = k := by omega
            have := HE.out; omega, rfl⟩
        exact ⟨R, by simp only [intOf]; omega⟩
    · have hlt' : ¬ ((k : Int) < (l.length : Int)) := by omega
      obtain rfl : k = l.length := by omega
      have e2 : l.any (fun b => decide (103 < b.length)) = false := by
        rw [Bool.eq_false_iff]
        intro h
        obtain ⟨j, hj, h1⟩ := any_long.1 h
        have := NO.out j hj
        omega
      go_wp2_with fail
      go_ret
      exact ⟨-1, rfl, by rw [e2]; rfl, rfl⟩
theorem containsf_calls (w : World) (Q : Nat → Prop) (a : Option Addr) (n c : Nat) (l : List (List UInt8)) (h : BL w Q (.slice a n c) l) (hl : l.length ≤ 1000000) :
    Calls Tryd.prog 88 #[.slice a n c, .func (.func 89) #[] #[]] w fun e w' => e = .returned (.bool (l.any (fun b => decide (103 < b.length)))) ∧ w' = w := by
  have hC := idxf_calls w Q a n c l h hl
  clear h
  go_enter Tryd.func88, Tryd.ntmps88
  go_wp2_with fail
  refine hC.mono ?_
  rintro e w' ⟨i, rfl, h1, rfl⟩
  dsimp only
  by_cases hi : 0 ≤ i
  · rw [decide_eq_true hi] at h1
    go_wp2_with fail
    go_ret
    exact ⟨by rw [← h1]; rfl, rfl⟩
  · rw [decide_eq_false hi] at h1
    go_wp2_with fail
    go_ret
    exact ⟨by rw [← h1]; rfl, rfl⟩
set_option maxRecDepth 100000 in
set_option maxHeartbeats 1000000 in
theorem right_calls (w : World) (Q : Nat → Prop) (x : Img) (a : Option Addr) (n c : Nat) (h : BL w Q (.slice a n c) x.blobs) (hj : x.job < 4294967296) (hv : x.ver < 4294967296) (hc : -9223372036854775808 ≤ x.credit ∧ x.credit ≤ 9223372036854775807) :
    Calls Tryd.prog 51 #[.agg (imgV x (.slice a n c)).toArray] w fun e w' => e = .returned (.int .i64 (rightI x : Int)) ∧ Below w.heap.size w w' := by
  have H := hid h
  have hb := h.len
  have hmx : (n : Int) ≤ 9223372036854775807 := by
    obtain ⟨_, _, _, e, h1, h2, _⟩ := h
    cases e
    have h3 := h1.max; have h4 := hb.2; unfold maxLen at h3; omega
  obtain ⟨job, ver, cr, bl, at'⟩ := x
  dsimp only at H hb hj hv hc
  have HB := hid hb.1
  unfold rightI imgV
  dsimp only
  rw [← hb.1]
  clear h hb
  by_cases h0 : job = 0
  · subst h0
    rw [if_pos (.inl rfl)]
    go_enter Tryd.func51, Tryd.ntmps51
    go_wp2_with fail
    go_ret
    exact ⟨rfl, below_alloc w _⟩
  have h0' : ¬ ((job : Int) = 0) := by omega
  by_cases h1 : cr < 0
  · rw [if_pos (.inr (.inl h1))]
    go_enter Tryd.func51, Tryd.ntmps51
    go_wp2_with fail
    go_ret
    exact ⟨rfl, below_alloc w _⟩
  by_cases h2 : 10000 < cr
  · rw [if_pos (.inr (.inr (.inl h2)))]
    go_enter Tryd.func51, Tryd.ntmps51
    go_wp2_with fail
    go_ret
    exact ⟨rfl, below_alloc w _⟩
  by_cases h3 : (n : Int) < 1
  · rw [if_pos (.inr (.inr (.inr (.inl (by omega)))))]
    go_enter Tryd.func51, Tryd.ntmps51
    go_wp2_with fail
    go_ret
    exact ⟨rfl, below_alloc w _⟩
  by_cases h4 : 16 < (n : Int)
  · rw [if_pos (.inr (.inr (.inr (.inr (by omega)))))]
    go_enter Tryd.func51, Tryd.ntmps51
    go_wp2_with fail
    go_ret
    exact ⟨rfl, below_alloc w _⟩
  rw [if_neg (by omega)]
  have hC := hid (containsf_calls _ Q a n c bl (H.out.below (below_alloc w (.cells #[.int .u32 (job : Int), .int .u32 (ver : Int), .int .i64 cr, .slice a n c] 36))) (by have := HB.out; omega))
  have hbw := hid (below_alloc w (.cells #[.int .u32 (job : Int), .int .u32 (ver : Int), .int .i64 cr, .slice a n c] 36))
  cases ha : bl.any (fun b => decide (103 < b.length))
  · rw [ha] at hC
    clear ha
    go_enter Tryd.func51, Tryd.ntmps51
    go_wp2_with (go_at_call 88; refine hC.out.mono ?_; rintro e w2 ⟨rfl, rfl⟩; dsimp only)
    go_ret
    exact ⟨rfl, hbw.out⟩
  · rw [ha] at hC
    clear ha
    go_enter Tryd.func51, Tryd.ntmps51
    go_wp2_with (go_at_call 88; refine hC.out.mono ?_; rintro e w2 ⟨rfl, rfl⟩; dsimp only)
    go_ret
    exact ⟨rfl, hbw.out⟩
end Go.Proofs.YtoapibbbooongaaDoor
