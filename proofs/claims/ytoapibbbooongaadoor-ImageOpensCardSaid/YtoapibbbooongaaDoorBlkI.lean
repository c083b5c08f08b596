/- The walks of layer 6: the document's blocks and roots on its slab. -/
import Derived.Test.YtoapibbbooongaaDoorBlkH
import Derived.Test.YtoapibbbooongaaDoorBlkE
namespace Go.Proofs.YtoapibbbooongaaDoor
open Go.RowKit Go.Quad _root_.Quad _root_.Quad.Slab

theorem rfTo_later {w w1 w' : World} {F : Nat → Prop} {B g dn dc : Nat} {wv : Value} {s s' : Sl} {r : Nat} {e : Ending} (h : IsRf w F B g dn dc wv s) (hb : Below w.heap.size w w1) (ht : RfTo w1 F B g dn dc s' r e w') : RfTo w F B g dn dc s' r e w' := by
  obtain ⟨wv', h1, h2, h3⟩ := ht
  refine ⟨wv', h1, h2.wider (fun k hk => hk.imp id fun hk => ⟨Nat.le_trans hb.size hk.1, hk.2⟩) (fun k hk => ?_), (Chg.of_below _ hb).trans h3⟩
  have hs := Nat.le_trans hb.size h3.size
  rcases hk with hk | hk
  · exact ⟨(h.lt k hk).1, Nat.lt_of_lt_of_le (h.lt k hk).2 hs⟩
  · exact ⟨Nat.le_trans h.size hk.1, hk.2⟩
theorem rfTo_no {w w' : World} {F : Nat → Prop} {B g dn dc : Nat} {wv : Value} {s : Sl} (h : IsRf w F B g dn dc wv s) (hb : Below w.heap.size w w') (n : Nat) : RfTo w F B g dn dc s n (.returned (.int .i64 (n : Int))) w' :=
  ⟨wv, rfl, (h.below hb).new _ h.size, Chg.of_below _ hb⟩
theorem rfTo_trans {w w1 w2 : World} {F : Nat → Prop} {B g dn dc : Nat} {wv _wv1 : Value} {s _s1 s2 : Sl} {r : Nat} {e : Ending} (h : IsRf w F B g dn dc wv s) (hc : Chg [g, dn] w w1)
    (ht : RfTo w1 (Fnew F w.heap.size w1) B g dn dc s2 r e w2) : RfTo w F B g dn dc s2 r e w2 := by
  obtain ⟨wv', h1, h2, h3⟩ := ht
  refine ⟨wv', h1, h2.wider (fun k hk => ?_) (fun k hk => ?_), hc.trans h3⟩
  · rcases hk with (hk | hk) | hk
    · exact .inl hk
    · exact .inr ⟨hk.1, Nat.lt_of_lt_of_le hk.2 h3.size⟩
    · exact .inr ⟨Nat.le_trans hc.size hk.1, hk.2⟩
  · have hs := Nat.le_trans hc.size h3.size
    rcases hk with hk | hk
    · exact ⟨(h.lt k hk).1, Nat.lt_of_lt_of_le (h.lt k hk).2 hs⟩
    · exact ⟨Nat.le_trans h.size hk.1, hk.2⟩
theorem rput_n (w : World) (F : Nat → Prop) (B g dn dc : Nat) (wv : Value) (s : Sl) (i : Int) (a : Option Addr) (cap n : Nat) (t : List UInt8) (h : IsRf w F B g dn dc wv s) (hi : -9223372036854775808 ≤ i ∧ i ≤ 9223372036854775807) (ht : BS w a cap t) (hn : t.length = n) (hs : s.steps < 1000000) (hw : s.way.length < 1000000)
    (hoff : t = [] ∨ ∀ x, a = some x → x.block ≠ g) :
    Calls Tryd.prog 18 #[.pointer (some ⟨g, 0, none⟩), .int .i64 i, .slice a n cap] w (RfTo w F B g dn dc (writeL s i t).1 (writeL s i t).2) := by
  subst hn; exact rput_any w F B g dn dc wv s i a cap t h hi ht hs hw hoff
def RPutTo (w : World) (F : Nat → Prop) (B g dn dc : Nat) (r : Sl × Nat) (e : Ending) (w' : World) : Prop := RfTo w F B g dn dc r.1 r.2 e w'

set_option maxRecDepth 100000 in
set_option maxHeartbeats 1000000 in
theorem rbput_calls (w : World) (F : Nat → Prop) (B g dn dc : Nat) (wv : Value) (s : Sl) (i : Int) (da : Option Addr) (n c : Nat) (x : BlkD) (h : IsRf w F B g dn dc wv s) (hi : -9223372036854775808 ≤ i ∧ i ≤ 9223372036854775807) (hx : x.Ok)
    (hd : BS w da c x.data) (hn : x.data.length = n) (hs : s.steps < 1000000) (hw : s.way.length < 1000000) :
    Calls Tryd.prog 99 #[.pointer (some ⟨g, 0, none⟩), .int .i64 i, .agg #[.int .u8 (x.kind : Int), .int .u32 (x.epoch : Int), .int .u32 (x.a : Int), .int .u32 (x.b : Int), .slice da n c]] w (RPutTo w F B g dn dc (putB s i x)) := by
  have hm := hd.max'
  rw [hn] at hm
  have hsm := h.ok.small
  have hkx := hx.kind
  have hgl := h.own.lt
  have H1 := hid (below_alloc w (.cells #[.int .u8 (x.kind : Int), .int .u32 (x.epoch : Int), .int .u32 (x.a : Int), .int .u32 (x.b : Int), .slice da n c] 167))
  have c0 := (h.own.below H1.out).get 0 rfl
  have H := hid h
  unfold putB
  by_cases h1 : i < 0
  · rw [if_pos (.inl h1)]
    clear h hkx
    go_enter Tryd.func99, Tryd.ntmps99
    go_wp2_with fail
    go_ret
    exact rfTo_no H.out H1.out 1
  have h1' : decide (i < 0) = false := by simpa using h1
  by_cases h2 : (s.done.length : Int) ≤ i
  · rw [if_pos (.inr h2)]
    clear h hkx
    go_enter Tryd.func99, Tryd.ntmps99
    go_wp2_with fail
    go_ret
    exact rfTo_no H.out H1.out 1
  rw [if_neg (by omega)]
  by_cases h3 : 104 < x.data.length
  · rw [if_pos h3]
    have h3' : (104 : Int) < (n : Int) := by omega
    clear h h3 hkx
    go_enter Tryd.func99, Tryd.ntmps99
    go_wp2_with fail
    go_ret
    exact rfTo_no H.out H1.out 3
  rw [if_neg h3]
  have h3' : ¬ ((104 : Int) < (n : Int)) := by omega
  by_cases h4 : x.kind = 0
  · rw [if_pos h4]
    have hk : ((x.kind : Int) == 0) = true := by rw [h4]; rfl
    clear h h3 h4 hn hkx
    go_enter Tryd.func99, Tryd.ntmps99
    go_wp2_with fail
    go_ret
    exact rfTo_no H.out H1.out 4
  rw [if_neg h4]
  have hk : ((x.kind : Int) == 0) = false := by simp; omega
  have ZB := hid (blk_alloc w [.int .u8 (x.kind : Int), .int .u32 (x.epoch : Int), .int .u32 (x.a : Int), .int .u32 (x.b : Int), .slice da n c] 167)
  have hC := bytes_calls da n c x _ hx (hd.below H1.out) hn (by omega)
  have HC := hid hC
  have Hs := hid hs
  have Hw := hid hw
  have HL := hid (encB_length (x := x) (by omega))
  have GL := hid hgl
  clear h h3 h4 hn hC hs hw hd hkx hgl
  go_enter Tryd.func99, Tryd.ntmps99
  go_upto_region 9 with fail
  clear c0
  go_wp2_with (first
    | (refine wpList_load_blk (o := ⟨some 33, _, _, _, _, _⟩) 167 (.tmp 5) rfl rfl w.heap.size [.int .u8 (x.kind : Int), .int .u32 (x.epoch : Int), .int .u32 (x.a : Int), .int .u32 (x.b : Int), .slice da n c] 167 rfl ZB.out ⟨_, Tryd.underlying167, rfl⟩ (by kernel_rfl) ?_)
    | (go_at_call 118; refine HC.out.mono ?_; rintro e w5 ⟨v5, rfl, ho5, hb5⟩; obtain ⟨a5, n5, c5, e5, hl5, hs5, hof5⟩ := ob_n ho5; subst e5; have S5 := hid hs5; have L5 := hid hl5; have B5 := hid (H1.out.trans (hb5.mono H1.out.size)); have O5 := hid (fun (y : Addr) (hy : a5 = some y) => show w.heap.size ≤ y.block from Nat.le_trans H1.out.size (hof5 y hy).2.2.1); clear ho5 hb5 hs5 hof5 hl5)
    | (go_at_call 18; refine (rput_n _ F B g dn dc wv s i _ c5 n5 (encB x) (H.out.below B5.out) hi S5.out L5.out Hs.out Hw.out (.inr fun y hy => by have := O5.out y hy; have := GL.out; omega)).mono ?_; intro e w6 ht; obtain ⟨wv6, rfl, t6⟩ := rfTo_later H.out B5.out ht; have T6 := hid t6; clear ht t6))
  go_ret
  exact ⟨wv6, rfl, T6.out⟩

theorem nilrbput_calls (w : World) (i : Int) (v0 v1 v2 v3 v4 : Value) : Calls Tryd.prog 99 #[.pointer none, .int .i64 i, .agg #[v0, v1, v2, v3, v4]] w fun e w' => e = .returned (.int .i64 6) ∧ Below w.heap.size w w' := by
  go_enter Tryd.func99, Tryd.ntmps99
  go_wp2_with fail
  go_ret
  exact ⟨rfl, below_alloc _ _⟩

set_option maxRecDepth 100000 in
set_option maxHeartbeats 1000000 in
theorem rstore_calls (w : World) (F : Nat → Prop) (B g dn dc : Nat) (wv : Value) (s : Sl) (r : RootD) (h : IsRf w F B g dn dc wv s) (hr : r.Ok) (hs : s.steps + 1 < 1000000) (hw : s.way.length < 1000000) :
    Calls Tryd.prog 74 #[.pointer (some ⟨g, 0, none⟩), .agg #[.int .u32 (r.turn : Int), .int .u32 (r.epoch : Int), .int .u32 (r.gen : Int), .int .u8 (r.area : Int)]] w (RPutTo w F B g dn dc (storeB s r)) := by
  have h1 := hr.area
  have h2 := hr.turn
  have H := hid h
  have h1' : (r.area : Int) ≤ 255 := by omega
  have h2' : (r.turn : Int) ≤ 4294967295 := by omega
  unfold storeB
  by_cases ha : 1 < r.area
  · rw [if_pos ha]
    have ha' : (1 : Int) < (r.area : Int) := by omega
    clear h h1 h2 ha
    go_enter Tryd.func74, Tryd.ntmps74
    go_wp2_with fail
    go_ret
    exact rfTo_no H.out (below_alloc _ _) 4
  rw [if_neg ha]
  have ha' : ¬ ((1 : Int) < (r.area : Int)) := by omega
  have hb1 := below_alloc w (.cells #[.int .u32 (r.turn : Int), .int .u32 (r.epoch : Int), .int .u32 (r.gen : Int), .int .u8 (r.area : Int)] 141)
  have hb2 := below_step hb1 (below_alloc (w.alloc (.cells #[.int .u32 (r.turn : Int), .int .u32 (r.epoch : Int), .int .u32 (r.gen : Int), .int .u8 (r.area : Int)] 141)) (.cells #[.int .u8 (r.area : Int)] 5))
  have hlit := lit_bs (w.alloc (.cells #[.int .u32 (r.turn : Int), .int .u32 (r.epoch : Int), .int .u32 (r.gen : Int), .int .u8 (r.area : Int)] 141)) 5 [UInt8.ofNat r.area] (by simp [maxLen])
  rw [show [UInt8.ofNat r.area].map u8v = [.int .u8 (r.area : Int)] from by rw [List.map_singleton, u8v_of' _ h1], show (w.alloc (.cells #[.int .u32 (r.turn : Int), .int .u32 (r.epoch : Int), .int .u32 (r.gen : Int), .int .u8 (r.area : Int)] 141)).heap.size = w.heap.size + 1 from by simp] at hlit
  have hP := rbput_calls _ F B g dn dc wv s ((r.turn % 2 : Nat) : Int) _ 1 1 (rootBlk r) (H.out.below hb2) (by omega) ⟨by show 1 < 256; omega, hr.epoch, hr.turn, hr.gen⟩ hlit rfl (by omega) hw
  obtain ⟨P, hPe⟩ : ∃ P, putB s ((r.turn % 2 : Nat) : Int) (rootBlk r) = P := ⟨_, rfl⟩
  have hfew := putB_few s ((r.turn % 2 : Nat) : Int) (rootBlk r)
  rw [hPe] at hP hfew ⊢
  clear hPe
  obtain ⟨R, hR⟩ : ∃ R, (if P.2 ≠ 0 then P else flushL P.1) = R := ⟨_, rfl⟩
  rw [hR]
  have HR := hid hR
  have HF := hid hfew
  clear hR hfew
  rw [Int.natCast_emod] at hP
  have HP := hid (show Calls Tryd.prog 99 #[.pointer (some ⟨g, 0, none⟩), .int .i64 ((r.turn : Int) % 2), .agg #[.int .u8 1, .int .u32 (r.epoch : Int), .int .u32 (r.turn : Int), .int .u32 (r.gen : Int), .slice (some ⟨w.heap.size + 1, 0, none⟩) 1 1]] ((w.alloc (.cells #[.int .u32 (r.turn : Int), .int .u32 (r.epoch : Int), .int .u32 (r.gen : Int), .int .u8 (r.area : Int)] 141)).alloc (.cells #[.int .u8 (r.area : Int)] 5)) (RPutTo ((w.alloc (.cells #[.int .u32 (r.turn : Int), .int .u32 (r.epoch : Int), .int .u32 (r.gen : Int), .int .u8 (r.area : Int)] 141)).alloc (.cells #[.int .u8 (r.area : Int)] 5)) F B g dn dc P) from hP)
  have HB := hid hb2
  have Hs := hid hs
  clear h h1 h2 ha hb1 hb2 hlit hP hs hw
  go_enter Tryd.func74, Tryd.ntmps74
  go_wp2_with fail
  refine HP.out.mono ?_
  intro e w1 ht
  obtain ⟨wv1, rfl, q1, q2⟩ := rfTo_later H.out HB.out ht
  have Q1 := hid q1
  have Q2 := hid q2
  clear ht q1 q2 HP
  by_cases h0 : P.2 = 0
  · have HR2 := hid (show flushL P.1 = R from by rw [← HR.out, if_neg (by simp [h0])])
    have h0' : ((P.2 : Int) != 0) = false := by simp; exact h0
    clear h0
    go_wp2_with fail
    refine (rflush_calls _ _ B g dn dc wv1 _ Q1.out (by have := HF.out.1; have := Hs.out; omega)).mono ?_
    intro e w2 ht
    rw [HR2.out] at ht
    obtain ⟨wv2, rfl, t2⟩ := rfTo_trans (_s1 := s) (_wv1 := wv1) H.out Q2.out ht
    have T2 := hid t2
    clear ht t2
    go_wp2_with fail
    go_ret
    exact ⟨wv2, rfl, T2.out⟩
  · have HR2 := hid (show P = R from by rw [← HR.out, if_pos h0])
    have h0' : ((P.2 : Int) != 0) = true := by simp; exact h0
    clear h0
    go_wp2_with fail
    go_ret
    rw [← HR2.out]
    exact ⟨wv1, rfl, Q1.out, Q2.out⟩

theorem nilrstore_calls (w : World) (v0 v1 v2 v3 : Value) : Calls Tryd.prog 74 #[.pointer none, .agg #[v0, v1, v2, v3]] w fun e w' => e = .returned (.int .i64 6) ∧ Below w.heap.size w w' := by
  go_enter Tryd.func74, Tryd.ntmps74
  go_wp2_with fail
  go_ret
  exact ⟨rfl, below_alloc _ _⟩

/-! ### are two blocks alike? -/
end Go.Proofs.YtoapibbbooongaaDoor
