/- The walks of layer 2: what the code's functions on bytes answer, each once. (Several texts in one: KnotA, KnotB.) -/
import Derived.Test.YtmmcmldcbdaooaaDoorLib
import Derived.Test.YtmmcmldcbdaooaaDoorCrcMath
import Derived.Test.YtmmcmldcbdaooaaDoorDraws
import Derived.Deep.QuietTactic
import Derived.BigQuiet
import Derived.Deep.RegionWith

/- The walks of layer 2: what the code's functions on bytes answer, each once. -/
namespace Go.Proofs.YtmmcmldcbdaooaaDoor
open Go.RowKit Go.Quad _root_.Quad


/-- the table of the code lies where it was laid -/
def Laid (w : World) : Prop := 0 < w.heap.size ∧ ∀ i, i < 16 → w.cell? ⟨0, i, none⟩ = some (.int .u32 ((quarters.getD i 0#32).toNat : Int))

theorem Laid.below {w w' : World} {B : Nat} (h : Laid w) (hb : Below B w w') (hB : 0 < B) : Laid w' := ⟨Nat.lt_of_lt_of_le h.1 hb.size, fun i hi => by rw [hb.cell (p := ⟨_, _, _⟩) hB]; exact h.2 i hi⟩

theorem xor_byte (c : BitVec 32) (b : UInt8) : bits .xor .u32 (c.toNat : Int) (b.toNat : Int) = ((c ^^^ b.toBitVec.setWidth 32).toNat : Int) := by
  rw [u32_xor_nat _ _ c.isLt (by have := b.toNat_lt; omega)]
  rw [BitVec.toNat_xor, BitVec.toNat_setWidth]
  have := b.toNat_lt
  rw [show b.toBitVec.toNat = b.toNat from rfl, Nat.mod_eq_of_lt (by omega)]

theorem xor_word (c d : BitVec 32) : bits .xor .u32 (c.toNat : Int) (d.toNat : Int) = ((c ^^^ d).toNat : Int) := by
  rw [u32_xor_nat _ _ c.isLt d.isLt, BitVec.toNat_xor]

theorem and15 (d : BitVec 32) : bits .and .u32 (d.toNat : Int) 15 = ((d.toNat % 16 : Nat) : Int) := by
  have := u32_and_nat d.toNat 15 d.isLt (by omega)
  rw [show ((15 : Nat) : Int) = 15 from rfl] at this
  rw [this, nat_mask4]

theorem round_num (d t : BitVec 32) (h : t = quarters.getD (d.toNat % 16) 0#32) : bits .xor .u32 ((d.toNat : Int) / 16) (t.toNat : Int) = ((stn 4 d).toNat : Int) := by
  have e : (d &&& 15#32).toNat = d.toNat % 16 := by rw [BitVec.toNat_and]; exact nat_mask4 _
  rw [show ((d.toNat : Int) / 16) = ((d.toNat / 16 : Nat) : Int) from by omega, u32_xor_nat _ _ (by have := d.isLt; omega) t.isLt]
  rw [stn4, e, ← h, BitVec.toNat_xor, BitVec.toNat_ushiftRight, Nat.shiftRight_eq_div_pow]

theorem take_snoc' (l : List UInt8) (k : Nat) (h : k < l.length) : l.take (k + 1) = l.take k ++ [l[k]] := by
  rw [List.take_succ_eq_append_getElem h]

theorem not_word (c : BitVec 32) : bits .xor .u32 IntKind.u32.max (c.toNat : Int) = ((~~~c).toNat : Int) := by
  rw [show IntKind.u32.max = (((BitVec.allOnes 32).toNat : Nat) : Int) from by decide, xor_word]
  congr 2

set_option maxHeartbeats 400000 in
theorem sum_calls (a : Option Addr) (cap : Nat) (l : List UInt8) (w : World) (h : BS w a cap l) (hq : Laid w) :
    Calls Tryd.prog 90 #[.slice a l.length cap] w fun e w' => e = .returned (.int .u32 ((crc l).toNat : Int)) ∧ w = w' := by
  have hl := h.max'
  go_enter Tryd.func90, Tryd.ntmps90
  go_wp2_with fail
  go_loop [3,5,8] (fun c _ i => ∃ k : Nat, k ≤ l.length ∧ i = .int .i64 k ∧ c = .int .u32 ((_root_.Quad.run (BitVec.allOnes 32) (l.take k)).toNat : Int)) (fun _ _ i => l.length - (intOf i).toNat)
  case atStart => exact ⟨0, by omega, rfl, rfl⟩
  case round =>
    obtain ⟨k, hk, rfl, rfl⟩ := hrel
    by_cases hlt : k < l.length
    · obtain ⟨b, off, rfl, hh⟩ := h.at (by omega)
      have h1 := hh k hlt
      have hb : ((l[k].toNat : Nat) : Int) ≤ 255 := by have := l[k].toNat_lt; omega
      have Hs := hid (take_snoc' l k hlt)
      generalize hc : _root_.Quad.run (BitVec.allOnes 32) (l.take k) = c
      have Hc := hid hc
      clear hh hc h
      go_wp2_with fail
      go_loop [3,16] (fun d j => ∃ m : Nat, m ≤ 2 ∧ j = .int .i64 m ∧ d = .int .u32 ((stn (4 * m) (c ^^^ l[k].toBitVec.setWidth 32)).toNat : Int)) (fun _ j => 2 - (intOf j).toNat)
      case atStart =>
        exact ⟨0, by omega, rfl, by rw [xor_byte c l[k]]; rfl⟩
      case round =>
        obtain ⟨m, hm, rfl, rfl⟩ := hrel
        by_cases hlt2 : m < 2
        · generalize hd : stn (4 * m) (c ^^^ l[k].toBitVec.setWidth 32) = d
          have Hd := hid hd
          have hq1 := hq.2 (d.toNat % 16) (by omega)
          have hand := and15 d
          have hn := round_num d _ rfl
          generalize quarters.getD (d.toNat % 16) 0#32 = t at hq1 hn
          have hq16 : d.toNat % 16 < 16 := by omega
          generalize d.toNat % 16 = q at hq1 hand hq16
          have hd' : ((d.toNat : Nat) : Int) ≤ 4294967295 := by have := d.isLt; omega
          have ht' : ((t.toNat : Nat) : Int) ≤ 4294967295 := by have := t.isLt; omega
          have Hn := hid hn
          clear hq hd hn
          go_wp2_with fail
          go_round
          case rel => exact ⟨m + 1, by omega, by go_num, by rw [Hn.out, ← Hd.out, ← stn_add]; rfl⟩
          case measure => simp [intOf]; omega
        · obtain rfl : m = 2 := by omega
          go_wp2_with fail
          go_round
          case rel => exact ⟨k + 1, by omega, by go_num, by rw [Hs.out, run_append, Hc.out]; simp only [_root_.Quad.run, List.foldl_cons, List.foldl_nil]; rw [byteStep, ← stn_add]⟩
          case measure => simp [intOf]; omega
    · obtain rfl : k = l.length := by omega
      rw [List.take_of_length_le (Nat.le_refl _)]
      have hcr : crc l = ~~~ (_root_.Quad.run (BitVec.allOnes 32) l) := rfl
      have Hcr := hid hcr
      generalize _root_.Quad.run (BitVec.allOnes 32) l = c at Hcr
      have hc' : ((c.toNat : Nat) : Int) ≤ 4294967295 := by have := c.isLt; omega
      clear hcr
      go_wp2_with fail
      go_ret
      exact ⟨by rw [Hcr.out, ← not_word]; rfl, rfl⟩

/-! ### what the functions answer -/
def RetBE (B : Nat) (w : World) (l : List UInt8) (k : Int) (e : Ending) (w' : World) : Prop := ∃ v, e = .returned (.tuple #[v, .int .i64 k]) ∧ OB w' B 5 v l ∧ Below B w w'

def tailL (c : BitVec 32) : List UInt8 := [UInt8.ofNat c.toNat, UInt8.ofNat (c.toNat / 256), UInt8.ofNat (c.toNat / 65536), UInt8.ofNat (c.toNat / 16777216)]
def frontL (l : List UInt8) : List UInt8 := UInt8.ofNat l.length :: UInt8.ofNat (l.length / 256) :: l
def tieL (l : List UInt8) : List UInt8 := frontL l ++ tailL (crc (frontL l))

theorem u8v_of (n : Nat) : u8v (UInt8.ofNat n) = .int .u8 ((n % 256 : Nat) : Int) := by
  unfold u8v; simp

set_option maxHeartbeats 400000 in
theorem tail_calls (c : BitVec 32) (w : World) :
    Calls Tryd.prog 89 #[.int .u32 (c.toNat : Int)] w (RetB w.heap.size w (tailL c)) := by
  have hc' : ((c.toNat : Nat) : Int) ≤ 4294967295 := by have := c.isLt; omega
  go_enter Tryd.func89, Tryd.ntmps89
  go_wp2_with fail
  go_ret
  refine ⟨_, rfl, ?_, below_alloc _ _⟩
  have := OB.lit (w := w) 5 (tailL c) (Nat.le_refl _) (by simp [tailL, maxLen])
  have e : ((tailL c).map u8v).toArray = #[.int .u8 ((c.toNat : Int) % 256), .int .u8 ((c.toNat : Int) / 256 % 256), .int .u8 ((c.toNat : Int) / 65536 % 256), .int .u8 ((c.toNat : Int) / 16777216)] := by
    simp only [tailL, List.map_cons, List.map_nil, u8v_of]
    rw [Nat.mod_eq_of_lt (show c.toNat / 16777216 < 256 by omega)]
    rfl
  rw [e] at this
  exact this

set_option maxHeartbeats 400000 in
theorem equal_calls (a a' : Option Addr) (cap cap' : Nat) (l l' : List UInt8) (w : World) (h : BS w a cap l) (h' : BS w a' cap' l') :
    Calls Tryd.prog 93 #[.slice a l.length cap, .slice a' l'.length cap'] w fun e w' => e = .returned (.bool (l == l')) ∧ w = w' := by
  have h1 := run_convert_b (P := Tryd.prog) 23 9 5 under_bytes under_u8 under_str h
  have h2 := run_convert_b (P := Tryd.prog) 23 9 5 under_bytes under_u8 under_str h'
  clear h h'
  go_enter Tryd.func93, Tryd.ntmps93
  go_wp2_with fail
  go_ret
  exact ⟨rfl, rfl⟩


set_option maxHeartbeats 400000 in
theorem tie_calls (a : Option Addr) (cap : Nat) (l : List UInt8) (w : World) (h : BS w a cap l) (hq : Laid w) (hn : l.length ≤ 2048) :
    Calls Tryd.prog 70 #[.slice a l.length cap] w (RetBE w.heap.size w (tieL l) 0) := by
  have hn' : ((l.length : Nat) : Int) ≤ 2048 := by omega
  have hown : OB (w.alloc (.cells #[.int .u8 ((l.length : Int) % 256), .int .u8 ((l.length : Int) / 256)] 5)) w.heap.size 5 (.slice (some ⟨w.heap.size, 0, none⟩) 2 2) [UInt8.ofNat l.length, UInt8.ofNat (l.length / 256)] := by
    have := OB.lit (w := w) 5 [UInt8.ofNat l.length, UInt8.ofNat (l.length / 256)] (Nat.le_refl _) (by simp [maxLen])
    have e : ([UInt8.ofNat l.length, UInt8.ofNat (l.length / 256)].map u8v).toArray = #[.int .u8 ((l.length : Int) % 256), .int .u8 ((l.length : Int) / 256)] := by
      simp only [List.map_cons, List.map_nil, u8v_of]
      rw [Nat.mod_eq_of_lt (show l.length / 256 < 256 by omega)]
      rfl
    rw [e] at this
    exact this
  have hsrc := h.below (below_alloc w (.cells #[.int .u8 ((l.length : Int) % 256), .int .u8 ((l.length : Int) / 256)] 5))
  have Hb := hid (below_alloc w (.cells #[.int .u8 ((l.length : Int) % 256), .int .u8 ((l.length : Int) / 256)] 5))
  clear h hn
  go_enter Tryd.func70, Tryd.ntmps70
  go_wp2_with (at_builtin; refine wpList_append_b (.tmp 15) (.tmp 16) _ rfl rfl _ 5 info_u8 under_bytes _ _ hown rfl hsrc rfl (by simp; omega) (by simp) ?_; intro v5 w1 hown1 hg1 hb1 _)
  clear hown hsrc hg1
  have hb1' := Hb.out.trans hb1
  obtain ⟨a5, c5, rfl, hs5, ho5⟩ := OB.bs hown1
  go_wp2_with fail
  refine (sum_calls _ _ _ _ hs5 (hq.below hb1' hq.1)).mono ?_
  rintro e w' ⟨rfl, rfl⟩
  go_wp2_with fail
  refine (tail_calls _ _).mono ?_
  rintro e w2 ⟨v2, rfl, hown2, hb2⟩
  obtain ⟨a6, c6, rfl, hs6, ho6⟩ := OB.bs hown2
  have hown3 := OB.below hown1 hb2
  have Hb2 := hid (hb1'.trans (hb2.mono hb1'.size))
  have Hz := hid hb1'.size
  have Hz2 := hid hb2.size
  clear hown1 hs5 ho5 ho6 hown2 hb2 hb1' hb1
  go_wp2_with (at_builtin; refine wpList_append_b (.tmp 18) (.tmp 21) _ rfl rfl _ 5 info_u8 under_bytes _ _ hown3 rfl hs6 rfl (by simp [tailL]; omega) (by have := Hz.out; have := Hz2.out; omega) ?_; intro v7 w3 hown4 hg2 hb3 _)
  go_ret2
  exact ⟨_, rfl, hown4, Hb2.out.trans hb3⟩
end Go.Proofs.YtmmcmldcbdaooaaDoor

/- The walks of layer 2: what stands in front of bytes. -/
namespace Go.Proofs.YtmmcmldcbdaooaaDoor
open Go.RowKit Go.Quad _root_.Quad

def lenL (p : List UInt8) : Nat := (p.getD 0 0).toNat + 256 * (p.getD 1 0).toNat
def nextL (p : List UInt8) : List UInt8 × List UInt8 × Int :=
  if p.length < 2 then ([], [], 2)
  else if 2048 < lenL p then ([], [], 3)
  else if p.length < lenL p + 6 then ([], [], 2)
  else if (p.drop (lenL p + 2)).take 4 == tailL (crc (p.take (lenL p + 2))) then ((p.drop 2).take (lenL p), p.drop (lenL p + 6), 0)
  else ([], [], 5)

def RetBBE (B : Nat) (w : World) (r : List UInt8 × List UInt8 × Int) (e : Ending) (w' : World) : Prop :=
  ∃ v1 v2, e = .returned (.tuple #[v1, v2, .int .i64 r.2.2]) ∧ OB w' B 5 v1 r.1 ∧ OB w' B 5 v2 r.2.1 ∧ Below B w w'

theorem retNil (w : World) (k : Int) {n : Nat} : RetBBE w.heap.size w ([], [], k) (.returned (.tuple #[.slice none 0 0, .slice none 0 0, .int .i64 k])) (w.drewN n) :=
  ⟨_, _, rfl, World.ownsRow_nil _ _ _ _, World.ownsRow_nil _ _ _ _, below_drewN (Below.refl _ _) n⟩

theorem or_len (x y : Nat) (hx : (x : Int) ≤ 255) (hy : (y : Int) ≤ 255) : bits .or .i64 (x : Int) ((y : Int) * 256) = ((x + 256 * y : Nat) : Int) := by
  have e : (y : Int) * 256 = ((y * 256 : Nat) : Int) := by omega
  have t : ∀ n : Nat, n < 2 ^ 64 → (BitVec.ofInt 64 (n : Int)).toNat = n := by
    intro n hn
    rw [BitVec.toNat_ofInt]
    omega
  rw [e]
  simp only [bits]
  show IntKind.i64.wrap (((BitVec.ofInt 64 (x : Int) ||| BitVec.ofInt 64 ((y * 256 : Nat) : Int)).toNat : Nat) : Int) = _
  rw [BitVec.toNat_or, t _ (by omega), t _ (by omega), Nat.or_comm, nat_join 8 (y * 256) x (by omega) (by omega), IntWalk.i64_in _ (by omega)]
  omega

/-- what stands from i to j -/
def IsCut (l : List UInt8) (i j : Nat) (v : Value) (w : World) : Prop := ∃ a' c', v = .slice a' ((l.drop i).take (j - i)).length c' ∧ BS w a' c' ((l.drop i).take (j - i))

theorem opOk_cut {P : Program} {o : Oper} {ρ : Operand → Value} {w : World} {K : Value → World → Prop} (x : Operand) (lo hi' : Option Operand) (t : TypeId) (ho : o.op = Op.slice t x lo hi' none)
    (ht : P.underlying t = some (.slice 5)) (hinf : (P.info? 5).map (fun i => (i.zero, i.size, i.bytes)) = some (some (.int .u8 0), 1, 1))
    {a : Option Addr} {n cap : Nat} {l : List UInt8} (hx : ρ x = .slice a n cap) (h : BS w a cap l) (i j : Nat)
    (hlo : lo.map ρ = some (.int .i64 (i : Int)) ∨ (lo = none ∧ i = 0)) (hhi : hi'.map ρ = some (.int .i64 (j : Int)) ∨ (hi' = none ∧ j = n)) (hij : i ≤ j) (hj : j ≤ l.length)
    (hK : ∀ v, IsCut l i j v w → K v w) : OpOk P o ρ w K := by
  obtain ⟨info, h1, _, h3, _⟩ := info_parts hinf
  refine opOk_slice t x lo hi' ho 5 info 1 ht h1 h3 (by decide) hx h i j hlo hhi hij (by have := h.fit'; omega) fun a' hc => hK _ ⟨a', cap - i, ?_, BS.cut j hc⟩
  rw [List.length_take, List.length_drop, Nat.min_eq_left (by omega)]

set_option maxRecDepth 100000 in
set_option maxHeartbeats 1000000 in
theorem next_calls (a : Option Addr) (cap : Nat) (l : List UInt8) (w : World) (h : BS w a cap l) (hq : Laid w) (hn : l.length ≤ 140737488355328) :
    Calls Tryd.prog 91 #[.slice a l.length cap] w (RetBBE w.heap.size w (nextL l)) := by
  by_cases h2 : l.length < 2
  · have e : nextL l = ([], [], 2) := by unfold nextL; rw [if_pos h2]
    rw [e]
    go_enter Tryd.func91, Tryd.ntmps91
    go_wp2_with fail
    go_ret3
    exact retNil w 2 (n := 0)
  · obtain ⟨b, off, rfl, hh⟩ := h.get (by omega)
    obtain ⟨x, hx, b0, c0⟩ := hh 0 (by omega)
    obtain ⟨y, hy, b1, c1⟩ := hh 1 (by omega)
    have i0 : 0 < l.length := by omega
    rw [Nat.add_zero] at c0
    have i1 : (1 : Int) < (l.length : Int) := by omega
    obtain ⟨n, hn0⟩ : ∃ n, lenL l = n := ⟨_, rfl⟩
    have hor : bits .or .i64 (x : Int) ((y : Int) * 256) = (n : Int) := by
      rw [or_len x y b0 b1, ← hn0, ← hx, ← hy]; rfl
    have hnb : (n : Int) ≤ 65535 := by rw [← hn0]; unfold lenL; rw [hx, hy]; omega
    have hm : (l.length : Int) ≤ 140737488355328 := by omega
    clear hh hx hy hn
    by_cases h3 : 2048 < n
    · have e : nextL l = ([], [], 3) := by unfold nextL; rw [if_neg h2, hn0, if_pos h3]
      rw [e]
      have h3' : (2048 : Int) < (n : Int) := by omega
      clear e hn0 h h3
      go_enter Tryd.func91, Tryd.ntmps91
      go_wp2_with fail
      go_quiet (fail)
      go_wp2_with fail
      go_ret3
      exact retNil w 3
    have h3' : (n : Int) ≤ 2048 := by omega
    by_cases h4 : l.length < n + 6
    · have e : nextL l = ([], [], 2) := by unfold nextL; rw [if_neg h2, hn0, if_neg h3, if_pos h4]
      rw [e]
      have h4' : (l.length : Int) < 2 + n + 4 := by omega
      clear e hn0 h h4
      go_enter Tryd.func91, Tryd.ntmps91
      go_wp2_with fail
      go_quiet (fail)
      go_wp2_with fail
      go_ret3
      exact retNil w 2
    have h4' : (2 : Int) + n + 4 ≤ (l.length : Int) := by omega
    have Hn0 := hid hn0
    have Hh := hid h
    have Hq := hid hq
    clear hn0 h hq h4
    go_enter Tryd.func91, Tryd.ntmps91
    go_wp2_with fail
    go_quiet (fail)
    go_wp2_with fail
    clear c0 c1 hor
    refine wp_region_below (fun i v w' => match i with
      | 0 => v = .slice (some ⟨b, off, none⟩) l.length cap
      | 1 => v = .int .i64 (2 + n)
      | 2 => v = .int .i64 (2 + n)
      | 3 => v = .int .i64 (2 + n + 4)
      | 4 => IsCut l (n + 2) (n + 6) v w'
      | 5 => v = .slice (some ⟨b, off, none⟩) l.length cap
      | 6 => v = .int .i64 (2 + n)
      | 7 => IsCut l 0 (n + 2) v w'
      | 8 => v = .int .u32 ((crc (l.take (n + 2))).toNat : Int)
      | 9 => ∃ a c, v = .slice a (tailL (crc (l.take (n + 2)))).length c ∧ BS w' a c (tailL (crc (l.take (n + 2))))
      | 10 => v = .bool ((l.drop (n + 2)).take 4 == tailL (crc (l.take (n + 2))))
      | 11 => v = .bool (!((l.drop (n + 2)).take 4 == tailL (crc (l.take (n + 2)))))
      | _ => v = .bool (!((l.drop (n + 2)).take 4 == tailL (crc (l.take (n + 2)))))) (by kernel_rfl) (by kernel_rfl) ?_ ?_ ?_
    · intro j v w1 w2 hR hb
      match j, hR with
      | 0, hR | 1, hR | 2, hR | 3, hR | 5, hR | 6, hR | 8, hR | 10, hR | 11, hR | _ + 12, hR => exact hR
      | 4, ⟨a', c', e, hs⟩ | 7, ⟨a', c', e, hs⟩ | 9, ⟨a', c', e, hs⟩ => exact ⟨a', c', e, hs.below hb⟩
    · refine ⟨?_, ?_, ?_, ?_, ?_, ?_, ?_, ?_, ?_, ?_, ?_, ?_, ?_, trivial⟩
      all_goals intro ρ w1 hE hc hg hf
      · intro h0; exact opOk_move _ rfl ⟨Below.refl _ _, h0⟩
      · intro h0; exact opOk_move _ rfl ⟨Below.refl _ _, h0⟩
      · intro h0; exact opOk_move _ rfl ⟨Below.refl _ _, h0⟩
      · intro (h0 : ρ (.tmp 34) = .int .i64 (2 + n))
        refine opOk_run (v := .int .i64 (2 + n + 4)) (w' := w1) ?_ ⟨Below.refl _ _, rfl⟩
        go_simp
        go_bits
        all_goals trivial
      · intro h0 h1 h2
        refine opOk_cut _ _ _ _ rfl under_bytes info_u8 h0 (Hh.out.below ((below_drewN (Below.refl _ _) nq).trans hE)) (n + 2) (n + 6) ?_ ?_ (by omega) (by omega) fun v hv => ⟨Below.refl _ _, hv⟩
        · left; rw [Option.map_some, h1]; congr 2; omega
        · left; rw [Option.map_some, h2]; congr 2; omega
      · intro h0; exact opOk_move _ rfl ⟨Below.refl _ _, h0⟩
      · intro h0; exact opOk_move _ rfl ⟨Below.refl _ _, h0⟩
      · intro h0 h1
        refine opOk_cut _ _ _ _ rfl under_bytes info_u8 h0 (Hh.out.below ((below_drewN (Below.refl _ _) nq).trans hE)) 0 (n + 2) ?_ ?_ (by omega) (by omega) fun v hv => ⟨Below.refl _ _, hv⟩
        · right; exact ⟨rfl, rfl⟩
        · left; rw [Option.map_some, h1]; congr 2; omega
      · intro ⟨a', c', e', hs⟩
        refine opOk_call (f := 90) (args := #[.slice a' ((l.drop 0).take (n + 2 - 0)).length c']) ?_ ?_
        · go_simp
        · refine (sum_calls _ _ _ _ hs (Hq.out.below ((below_drewN (Below.refl _ _) nq).trans hE) Hq.out.1)).mono ?_
          rintro e w2 ⟨rfl, rfl⟩
          exact ⟨_, rfl, Below.refl _ _, rfl⟩
      · intro (h0 : ρ (.tmp 40) = .int .u32 ((crc (l.take (n + 2))).toNat : Int))
        refine opOk_call (f := 89) (args := #[.int .u32 ((crc (l.take (n + 2))).toNat : Int)]) ?_ ?_
        · go_simp
        · refine (tail_calls _ _).mono ?_
          rintro e w2 ⟨v, rfl, hv, hb⟩
          obtain ⟨a', c', rfl, hs, _⟩ := OB.bs hv
          exact ⟨_, rfl, hb, _, _, rfl, hs⟩
      · intro ⟨a1, c1, e1, hs1⟩ ⟨a2, c2, e2, hs2⟩
        refine opOk_call (f := 93) (args := #[.slice a1 ((l.drop (n + 2)).take (n + 6 - (n + 2))).length c1, .slice a2 (tailL (crc (l.take (n + 2)))).length c2]) ?_ ?_
        · go_simp
        · refine (equal_calls _ _ _ _ _ _ _ hs1 hs2).mono ?_
          rintro e w2 ⟨rfl, rfl⟩
          refine ⟨_, rfl, Below.refl _ _, ?_⟩
          show Value.bool ((l.drop (n + 2)).take (n + 6 - (n + 2)) == tailL (crc (l.take (n + 2)))) = _
          rw [show n + 6 - (n + 2) = 4 from by omega]
      · intro (h0 : ρ (.tmp 42) = .bool ((l.drop (n + 2)).take 4 == tailL (crc (l.take (n + 2)))))
        refine opOk_run (v := .bool (!((l.drop (n + 2)).take 4 == tailL (crc (l.take (n + 2)))))) (w' := w1) ?_ ⟨Below.refl _ _, rfl⟩
        go_simp
      · intro h0; exact opOk_assign _ rfl ⟨Below.refl _ _, h0⟩
    · intro w1 hb1
      rintro _ rfl _ rfl _ rfl _ rfl v36 h36 _ rfl _ rfl v39 h39 _ rfl v41 h41 _ rfl _ rfl _ rfl
      clear h36 h39 h41
      simp only [PutAll, Act.put, List.setIfInBounds_toArray, List.set_cons_succ, List.set_cons_zero]
      by_cases h5 : ((l.drop (n + 2)).take 4 == tailL (crc (l.take (n + 2)))) = true
      · have e : nextL l = ((l.drop 2).take n, l.drop (n + 6), 0) := by unfold nextL; rw [if_neg h2, Hn0.out, if_neg h3, if_neg (by omega), if_pos h5]
        have He := hid e
        rw [h5, Bool.not_true]
        clear e h5
        go_wp2_with fail
        refine wp_region_below (fun i v w' => match i with
          | 0 => v = .slice (some ⟨b, off, none⟩) l.length cap
          | 1 => v = .int .i64 (2 + n)
          | 2 => IsCut l 2 (n + 2) v w'
          | 3 => OB w' w.heap.size 5 v ((l.drop 2).take n)
          | 4 => v = .slice (some ⟨b, off, none⟩) l.length cap
          | 5 => v = .int .i64 (2 + n)
          | 6 => v = .int .i64 (2 + n + 4)
          | 7 => IsCut l (n + 6) l.length v w'
          | 8 => OB w' w.heap.size 5 v (l.drop (n + 6))
          | 9 => OB w' w.heap.size 5 v ((l.drop 2).take n)
          | 10 => OB w' w.heap.size 5 v (l.drop (n + 6))
          | _ => v = .int .i64 0) (by kernel_rfl) (by kernel_rfl) ?_ ?_ ?_
        · intro j v w1 w2 hR hb
          match j, hR with
          | 0, hR | 1, hR | 4, hR | 5, hR | 6, hR | _ + 11, hR => exact hR
          | 3, hR | 8, hR | 9, hR | 10, hR => exact OB.below hR hb
          | 2, ⟨a', c', e, hs⟩ | 7, ⟨a', c', e, hs⟩ => exact ⟨a', c', e, hs.below hb⟩
        · have Hw1 := (below_drewN (Below.refl w.heap.size w) nq).trans hb1
          refine ⟨?_, ?_, ?_, ?_, ?_, ?_, ?_, ?_, ?_, ?_, ?_, ?_, trivial⟩
          all_goals intro ρ w2 hE hc hg hf
          all_goals have hE' := Hw1.trans (hE.mono Hw1.size)
          · intro h0; exact opOk_move _ rfl ⟨Below.refl _ _, h0⟩
          · intro h0; exact opOk_move _ rfl ⟨Below.refl _ _, h0⟩
          · intro h0 h1
            refine opOk_cut _ _ _ _ rfl under_bytes info_u8 h0 (Hh.out.below hE') 2 (n + 2) ?_ ?_ (by omega) (by omega) fun v hv => ⟨Below.refl _ _, hv⟩
            · left; rw [Option.map_some, hc]; rfl
            · left; rw [Option.map_some, h1]; congr 2; omega
          · intro ⟨a', c', e', hs⟩
            refine opOk_call (f := 83) (args := #[.slice a' ((l.drop 2).take (n + 2 - 2)).length c']) ?_ ?_
            · go_simp
            · refine (clone_calls _ _ _ _ hs (by rw [List.length_take, List.length_drop]; omega)).mono ?_
              rintro e w3 ⟨v, rfl, hv, hb⟩
              refine ⟨_, rfl, hb, ?_⟩
              rw [Nat.add_sub_cancel] at hv
              exact OB.base hv hE'.size
          · intro h0; exact opOk_move _ rfl ⟨Below.refl _ _, h0⟩
          · intro h0; exact opOk_move _ rfl ⟨Below.refl _ _, h0⟩
          · intro (h0 : ρ (.tmp 49) = .int .i64 (2 + n))
            refine opOk_run (v := .int .i64 (2 + n + 4)) (w' := w2) ?_ ⟨Below.refl _ _, rfl⟩
            go_simp
            go_bits
            all_goals trivial
          · intro h0 h1
            refine opOk_cut _ _ _ _ rfl under_bytes info_u8 h0 (Hh.out.below hE') (n + 6) l.length ?_ ?_ (by omega) (by omega) fun v hv => ⟨Below.refl _ _, hv⟩
            · left; rw [Option.map_some, h1]; congr 2; omega
            · right; exact ⟨rfl, rfl⟩
          · intro ⟨a', c', e', hs⟩
            refine opOk_call (f := 83) (args := #[.slice a' ((l.drop (n + 6)).take (l.length - (n + 6))).length c']) ?_ ?_
            · go_simp
            · refine (clone_calls _ _ _ _ hs (by rw [List.length_take, List.length_drop]; omega)).mono ?_
              rintro e w3 ⟨v, rfl, hv, hb⟩
              refine ⟨_, rfl, hb, ?_⟩
              rw [List.take_of_length_le (by rw [List.length_drop]; omega)] at hv
              exact OB.base hv hE'.size
          · intro h0; exact opOk_assign _ rfl ⟨Below.refl _ _, h0⟩
          · intro h0; exact opOk_assign _ rfl ⟨Below.refl _ _, h0⟩
          · dsimp only [GuF, InF, Op.operands]
            refine opOk_assign (.const (.int .i64 0)) rfl ?_
            exact ⟨Below.refl _ _, hc _⟩
        · intro w2 hb2
          rintro _ rfl _ rfl v2 h2 v3 h3 _ rfl _ rfl _ rfl v7 h7 v8 h8 v9 h9 v10 h10 _ rfl
          clear h2 h3 h7 h8
          simp only [PutAll, Act.put, List.setIfInBounds_toArray, List.set_cons_succ, List.set_cons_zero]
          go_wp2_with fail
          go_ret3
          rw [He.out]
          exact ⟨_, _, rfl, h9, h10, ((below_drewN (Below.refl _ _) nq).trans hb1).trans (hb2.mono hb1.size)⟩
      · have e : nextL l = ([], [], 5) := by unfold nextL; rw [if_neg h2, Hn0.out, if_neg h3, if_neg (by omega), if_neg h5]
        have He := hid e
        rw [Bool.eq_false_iff.2 h5, Bool.not_false]
        clear e h5
        go_wp2_with fail
        go_ret3
        rw [He.out]
        exact ⟨_, _, rfl, World.ownsRow_nil _ _ _ _, World.ownsRow_nil _ _ _ _, (below_drewN (Below.refl _ _) nq).trans hb1⟩
end Go.Proofs.YtmmcmldcbdaooaaDoor
