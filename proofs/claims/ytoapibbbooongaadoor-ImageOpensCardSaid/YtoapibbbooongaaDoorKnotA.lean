/- The walks of layer 2: what the code's functions on bytes answer, each once. (Several texts in one: KnotA, KnotB.) -/
import Derived.Test.YtoapibbbooongaaDoorLib
import Derived.Test.YtoapibbbooongaaDoorCrcMath
import Derived.Test.YtoapibbbooongaaDoorDraws
import Derived.Deep.QuietTactic
import Derived.BigQuiet
import Derived.Deep.RegionWith

/- The walks of layer 2: what the code's functions on bytes answer, each once. -/
namespace Go.Proofs.YtoapibbbooongaaDoor
open Go.RowKit Go.Quad _root_.Quad


/-- the table of the code lies where it was laid -/
def Laid (w : World) : Prop := 0 < w.heap.size ∧ ∀ i, i < 16 → w.cell? ⟨0, i, none⟩ = some (.int .u32 ((quarters.getD i 0#32).toNat : Int))

theorem Laid.below {w w' : World} {B : Nat} (h : Laid w) (hb : Below B w w') (hB : 0 < B) : Laid w' := ⟨Nat.lt_of_lt_of_le h.1 hb.size, fun i hi => by rw [hb.cell (p := ⟨_, _, _⟩) hB]; exact h.2 i hi⟩

theorem xor_byte (c : BitVec 32) (b : UInt8) : bits .xor .u32 (c.toNat : Int) (b.toNat : Int) = ((c ^^^ b.toBitVec.setWidth 32).toNat : Int) := by
  rw [u32_xor_nat _ _ c.isLt (by have := b.toNat_lt; omega)]
  rw [BitVec.toNat_xor, BitVec.toNat_setWidth]
  have := b.toNat_lt
  rw [show b.toBitVec.toNat = b.toNat from rfl, Nat.mod_eq_of_lt (by omega)]

theorem xor_word (c d : BitVec 32) : bits .xor .u32 (c.toNat : Int) (d.toNat : Int) = ((c ^^^ d).toNat : Int) := by
  rw [u32_xor_nat _ _ c.isLt d.isLt, BitVec.toNat_xor]

theorem and15 (d : BitVec 32) : bits .and .u32 (d.toNat : Int) 15 = ((d.toNat % 16 : Nat) : Int) := by
  have := u32_and_nat d.toNat 15 d.isLt (by omega)
  rw [show ((15 : Nat) : Int) = 15 from rfl] at this
  rw [this, nat_mask4]

theorem round_num (d t : BitVec 32) (h : t = quarters.getD (d.toNat % 16) 0#32) : bits .xor .u32 ((d.toNat : Int) / 16) (t.toNat : Int) = ((stn 4 d).toNat : Int) := by
  have e : (d &&& 15#32).toNat = d.toNat % 16 := by rw [BitVec.toNat_and]; exact nat_mask4 _
  rw [show ((d.toNat : Int) / 16) = ((d.toNat / 16 : Nat) : Int) from by omega, u32_xor_nat _ _ (by have := d.isLt; omega) t.isLt]
  rw [stn4, e, ← h, BitVec.toNat_xor, BitVec.toNat_ushiftRight, Nat.shiftRight_eq_div_pow]

theorem take_snoc' (l : List UInt8) (k : Nat) (h : k < l.length) : l.take (k + 1) = l.take k ++ [l[k]] := by
  rw [List.take_succ_eq_append_getElem h]

theorem not_word (c : BitVec 32) : bits .xor .u32 IntKind.u32.max (c.toNat : Int) = ((~~~c).toNat : Int) := by
  rw [show IntKind.u32.max = (((BitVec.allOnes 32).toNat : Nat) : Int) from by decide, xor_word]
  congr 2

set_option maxHeartbeats 400000 in
theorem sum_calls (a : Option Addr) (cap : Nat) (l : List UInt8) (w : World) (h : BS w a cap l) (hq : Laid w) :
    Calls Tryd.prog 84 #[.slice a l.length cap] w fun e w' => e = .returned (.int .u32 ((crc l).toNat : Int)) ∧ w = w' := by
  have hl := h.max'
  go_enter Tryd.func84, Tryd.ntmps84
  go_wp2_with fail
  go_loop [3,5,8] (fun c _ i => ∃ k : Nat, k ≤ l.length ∧ i = .int .i64 k ∧ c = .int .u32 ((_root_.Quad.run (BitVec.allOnes 32) (l.take k)).toNat : Int)) (fun _ _ i => l.length - (intOf i).toNat)
  case atStart => exact ⟨0, by omega, rfl, rfl⟩
  case round =>
    obtain ⟨k, hk, rfl, rfl⟩ := hrel
    by_cases hlt : k < l.length
    · obtain ⟨b, off, rfl, hh⟩ := h.at (by omega)
      have h1 := hh k hlt
      have hb : ((l[k].toNat : Nat) : Int) ≤ 255 := by have := l[k].toNat_lt; omega
      have Hs := hid (take_snoc' l k hlt)
      generalize hc : _root_.Quad.run (BitVec.allOnes 32) (l.take k) = c
      have Hc := hid hc
      clear hh hc h
      go_wp2_with fail
      go_loop [3,16] (fun d j => ∃ m : Nat, m ≤ 2 ∧ j = .int .i64 m ∧ d = .int .u32 ((stn (4 * m) (c ^^^ l[k].toBitVec.setWidth 32)).toNat : Int)) (fun _ j => 2 - (intOf j).toNat)
      case atStart =>
        exact ⟨0, by omega, rfl, by rw [xor_byte c l[k]]; rfl⟩
      case round =>
        obtain ⟨m, hm, rfl, rfl⟩ := hrel
        by_cases hlt2 : m < 2
        · generalize hd : stn (4 * m) (c ^^^ l[k].toBitVec.setWidth 32) = d
          have Hd := hid hd
          have hq1 := hq.2 (d.toNat % 16) (by omega)
          have hand := and15 d
          have hn := round_num d _ rfl
          generalize quarters.getD (d.toNat % 16) 0#32 = t at hq1 hn
          have hq16 : d.toNat % 16 < 16 := by omega
          generalize d.toNat % 16 = q at hq1 hand hq16
          have hd' : ((d.toNat : Nat) : Int) ≤ 4294967295 := by have := d.isLt; omega
          have ht' : ((t.toNat : Nat) : Int) ≤ 4294967295 := by have := t.isLt; omega
          have Hn := hid hn
          clear hq hd hn
          go_wp2_with fail
          go_round
          case rel => exact ⟨m + 1, by omega, by go_num, by rw [Hn.out, ← Hd.out, ← stn_add]; rfl⟩
          case measure => simp [intOf]; omega
        · obtain rfl : m = 2 := by omega
          go_wp2_with fail
          go_round
          case rel => exact ⟨k + 1, by omega, by go_num, by rw [Hs.out, run_append, Hc.out]; simp only [_root_.Quad.run, List.foldl_cons, List.foldl_nil]; rw [byteStep, ← stn_add]⟩
          case measure => simp [intOf]; omega
    · obtain rfl : k = l.length := by omega
      rw [List.take_of_length_le (Nat.le_refl _)]
      have hcr : crc l = ~~~ (_root_.Quad.run (BitVec.allOnes 32) l) := rfl
      have Hcr := hid hcr
      generalize _root_.Quad.run (BitVec.allOnes 32) l = c at Hcr
      have hc' : ((c.toNat : Nat) : Int) ≤ 4294967295 := by have := c.isLt; omega
      clear hcr
      go_wp2_with fail
      go_ret
      exact ⟨by rw [Hcr.out, ← not_word]; rfl, rfl⟩

/-! ### what the functions answer -/
def RetBE (B : Nat) (w : World) (l : List UInt8) (k : Int) (e : Ending) (w' : World) : Prop := ∃ v, e = .returned (.tuple #[v, .int .i64 k]) ∧ OB w' B 5 v l ∧ Below B w w'

def tailL (c : BitVec 32) : List UInt8 := [UInt8.ofNat c.toNat, UInt8.ofNat (c.toNat / 256), UInt8.ofNat (c.toNat / 65536), UInt8.ofNat (c.toNat / 16777216)]
def frontL (l : List UInt8) : List UInt8 := UInt8.ofNat l.length :: UInt8.ofNat (l.length / 256) :: l
def tieL (l : List UInt8) : List UInt8 := frontL l ++ tailL (crc (frontL l))

theorem u8v_of (n : Nat) : u8v (UInt8.ofNat n) = .int .u8 ((n % 256 : Nat) : Int) := by
  unfold u8v; simp

end Go.Proofs.YtoapibbbooongaaDoor

/- The walks of layer 2: what stands in front of bytes. -/
namespace Go.Proofs.YtoapibbbooongaaDoor
open Go.RowKit Go.Quad _root_.Quad

def lenL (p : List UInt8) : Nat := (p.getD 0 0).toNat + 256 * (p.getD 1 0).toNat
def nextL (p : List UInt8) : List UInt8 × List UInt8 × Int :=
  if p.length < 2 then ([], [], 2)
  else if 2048 < lenL p then ([], [], 3)
  else if p.length < lenL p + 6 then ([], [], 2)
  else if (p.drop (lenL p + 2)).take 4 == tailL (crc (p.take (lenL p + 2))) then ((p.drop 2).take (lenL p), p.drop (lenL p + 6), 0)
  else ([], [], 5)

def RetBBE (B : Nat) (w : World) (r : List UInt8 × List UInt8 × Int) (e : Ending) (w' : World) : Prop :=
  ∃ v1 v2, e = .returned (.tuple #[v1, v2, .int .i64 r.2.2]) ∧ OB w' B 5 v1 r.1 ∧ OB w' B 5 v2 r.2.1 ∧ Below B w w'

theorem retNil (w : World) (k : Int) {n : Nat} : RetBBE w.heap.size w ([], [], k) (.returned (.tuple #[.slice none 0 0, .slice none 0 0, .int .i64 k])) (w.drewN n) :=
  ⟨_, _, rfl, World.ownsRow_nil _ _ _ _, World.ownsRow_nil _ _ _ _, below_drewN (Below.refl _ _) n⟩

theorem or_len (x y : Nat) (hx : (x : Int) ≤ 255) (hy : (y : Int) ≤ 255) : bits .or .i64 (x : Int) ((y : Int) * 256) = ((x + 256 * y : Nat) : Int) := by
  have e : (y : Int) * 256 = ((y * 256 : Nat) : Int) := by omega
  have t : ∀ n : Nat, n < 2 ^ 64 → (BitVec.ofInt 64 (n : Int)).toNat = n := by
    intro n hn
    rw [BitVec.toNat_ofInt]
    omega
  rw [e]
  simp only [bits]
  show IntKind.i64.wrap (((BitVec.ofInt 64 (x : Int) ||| BitVec.ofInt 64 ((y * 256 : Nat) : Int)).toNat : Nat) : Int) = _
  rw [BitVec.toNat_or, t _ (by omega), t _ (by omega), Nat.or_comm, nat_join 8 (y * 256) x (by omega) (by omega), IntWalk.i64_in _ (by omega)]
  omega

/-- what stands from i to j -/
def IsCut (l : List UInt8) (i j : Nat) (v : Value) (w : World) : Prop := ∃ a' c', v = .slice a' ((l.drop i).take (j - i)).length c' ∧ BS w a' c' ((l.drop i).take (j - i))

theorem opOk_cut {P : Program} {o : Oper} {ρ : Operand → Value} {w : World} {K : Value → World → Prop} (x : Operand) (lo hi' : Option Operand) (t : TypeId) (ho : o.op = Op.slice t x lo hi' none)
    (ht : P.underlying t = some (.slice 5)) (hinf : (P.info? 5).map (fun i => (i.zero, i.size, i.bytes)) = some (some (.int .u8 0), 1, 1))
    {a : Option Addr} {n cap : Nat} {l : List UInt8} (hx : ρ x = .slice a n cap) (h : BS w a cap l) (i j : Nat)
    (hlo : lo.map ρ = some (.int .i64 (i : Int)) ∨ (lo = none ∧ i = 0)) (hhi : hi'.map ρ = some (.int .i64 (j : Int)) ∨ (hi' = none ∧ j = n)) (hij : i ≤ j) (hj : j ≤ l.length)
    (hK : ∀ v, IsCut l i j v w → K v w) : OpOk P o ρ w K := by
  obtain ⟨info, h1, _, h3, _⟩ := info_parts hinf
  refine opOk_slice t x lo hi' ho 5 info 1 ht h1 h3 (by decide) hx h i j hlo hhi hij (by have := h.fit'; omega) fun a' hc => hK _ ⟨a', cap - i, ?_, BS.cut j hc⟩
  rw [List.length_take, List.length_drop, Nat.min_eq_left (by omega)]

end Go.Proofs.YtoapibbbooongaaDoor
