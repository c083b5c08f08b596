/- The walk of the reference's sum: a row of bits, divided. (Several texts in one: KnotC, KnotD, KnotE, KnotF, KnotG, KnotH.) -/
import Derived.Test.YtoapibbbooongaaDoorKnotA
import Derived.Test.YtoapibbbooongaaDoorCrcMath
import Derived.Lib.SlBytesConst

/- The walk of the reference's sum: a row of bits, divided. -/
namespace Go.Proofs.YtoapibbbooongaaDoor
open Go.RowKit Go.Quad _root_.Quad

theorem under_bools : Tryd.prog.underlying 120 = some (.slice 4) := by kernel_rfl
theorem info_bool : (Tryd.prog.info? 4).map (fun i => (i.zero, i.size, i.bytes)) = some (some (.bool false), 1, 1) := by kernel_rfl

theorem map_set' {l : List Bool} {j : Nat} {b : Bool} : (l.map Value.bool).set j (.bool b) = (l.set j b).map .bool := by rw [List.map_set]
theorem map_get' {l : List Bool} {j : Nat} (h : j < l.length) : (l.map Value.bool)[j]? = some (.bool (l.getD j false)) := by
  rw [List.getElem?_map, List.getElem?_eq_getElem h, List.getD_eq_getElem?_getD, List.getElem?_eq_getElem h]; rfl

set_option maxRecDepth 100000 in
set_option maxHeartbeats 1000000 in
theorem refsum_calls (a : Option Addr) (cap : Nat) (l : List UInt8) (w : World) (h : BS w a cap l) (hl : l.length ≤ 1000000) :
    Calls Tryd.prog 130 #[.slice a l.length cap] w fun e w' => e = .returned (.int .u32 ((crc l).toNat : Int)) ∧ Below w.heap.size w w' := by
  obtain ⟨i0, hi, hz0, hz1, hz2⟩ := info_parts info_bool
  have hl' : ((l.length : Nat) : Int) ≤ 1000000 := by omega
  have Hi := hid hi; have Hz0 := hid hz0; have Hz1 := hid hz1; have Hz2 := hid hz2
  have H := hid h
  clear hi hz0 hz1 hz2 h
  go_enter Tryd.func130, Tryd.ntmps130
  go_wp2_with (at_make; refine wpList_make_full _ rfl (.tmp 15) (.tmp 15) _ rfl w.heap.size 4 i0 (.bool false) 1 under_bools Hi.out Hz0.out Hz1.out .i64 .i64 _ _ (8 * l.length + 32) rfl rfl (by omega) (by omega) (by rw [Hz2.out]; omega) (by unfold maxLen; omega) (Nat.le_refl _) ?_; intro w1 hown hgr)
  have hb1 : Below w.heap.size w w1 := grownBy_below hgr (Nat.le_refl _) (by simp)
  have hown1 := row_made w1 rfl hown
  clear hown hgr
  go_loopw [4, 20] (fun _ i wr => ∃ k : Nat, k ≤ 8 * l.length ∧ i = .int .i64 k ∧ wr.ownsRow w.heap.size 4 1 (.slice (some ⟨w.heap.size, 0, none⟩) (8 * l.length + 32) (8 * l.length + 32)) (8 * l.length + 32) ((filled l k).map .bool) ∧ Below w.heap.size w wr) (fun _ i _ => 8 * l.length - (intOf i).toNat)
  case atStart => exact ⟨0, by omega, rfl, by simpa [filled] using hown1, hb1⟩
  case round =>
    clear hown1 hb1
    obtain ⟨k, hk, rfl, hown, hb⟩ := hrel
    by_cases hlt : k < 8 * l.length
    · obtain ⟨b, off, rfl, hh⟩ := H.out.get (by omega)
      obtain ⟨x, hx, hx1, hc⟩ := hh (k / 8) (by omega)
      have hc' := cell_later hb hc
      have h8 : ((k : Int) / 8) < (l.length : Int) := by omega
      have hlen := filled_length l k hk
      obtain ⟨hc1, hf1⟩ := row_at hown k (by omega) (map_get' (by omega))
      have hbit := bit_num x (k % 8)
      rw [← hx, ← bitsOf_get l k hlt, hx] at hbit
      have Hs := hid (row_store hown k (.bool ((bitsOf l).getD k false)))
      rw [map_set', filled_succ l k hlt] at Hs
      generalize (bitsOf l).getD k false = bt at hbit Hs
      have Hb := hid hb
      clear hh hc hx hown hb hlen
      go_wp2_with fail
      go_roundw
      case rel => exact ⟨k + 1, by omega, by go_num, Hs.out.1, Hb.out.trans Hs.out.2⟩
      case measure => simp [intOf]; omega
    · obtain rfl : k = 8 * l.length := by omega
      rw [filled_all] at hown
      have Hl := hid hl
      clear hlt hk hl
      go_wp2_with fail
      go_loopw [5, 38] (fun _ i wr => ∃ k : Nat, k ≤ 32 ∧ i = .int .i64 k ∧ wr.ownsRow w.heap.size 4 1 (.slice (some ⟨w.heap.size, 0, none⟩) (8 * l.length + 32) (8 * l.length + 32)) (8 * l.length + 32) ((turned k (startBits l)).map .bool) ∧ Below w.heap.size w wr) (fun _ i _ => 32 - (intOf i).toNat)
      case atStart => exact ⟨0, by omega, rfl, hown, hb⟩
      case round =>
        clear hown hb
        obtain ⟨k, hk, rfl, hown, hb⟩ := hrel
        by_cases hlt : k < 32
        · have hlen := turned_length k (startBits l)
          rw [startBits_length] at hlen
          obtain ⟨hc1, hf1⟩ := row_at hown k (by omega) (map_get' (by omega))
          have Hs := hid (row_store hown k (.bool (!(turned k (startBits l)).getD k false)))
          have et := turned_succ k (startBits l)
          unfold flipAt at et
          rw [map_set', ← et] at Hs
          generalize (turned k (startBits l)).getD k false = bt at hc1 Hs
          have Hb := hid hb
          clear hown hb hlen et
          go_wp2_with fail
          go_roundw
          case rel => exact ⟨k + 1, by omega, by go_num, Hs.out.1, Hb.out.trans Hs.out.2⟩
          case measure => simp [intOf]; omega
        · obtain rfl : k = 32 := by omega
          generalize hT : turned 32 (startBits l) = T at hown
          have hTl : T.length = 8 * l.length + 32 := by rw [← hT, turned_length, startBits_length]
          have HT := hid hT
          have HTl := hid hTl
          clear hlt hk hT hTl
          go_wp2_with fail
          have hbA := hb.alloc hb.size (.cells #[.int .i64 0, .int .i64 6, .int .i64 8, .int .i64 9, .int .i64 10, .int .i64 11, .int .i64 13, .int .i64 14, .int .i64 18, .int .i64 19, .int .i64 20, .int .i64 22, .int .i64 23, .int .i64 25, .int .i64 26, .int .i64 27, .int .i64 28] 3)
          have hownA := hown.alloc (.cells #[.int .i64 0, .int .i64 6, .int .i64 8, .int .i64 9, .int .i64 10, .int .i64 11, .int .i64 13, .int .i64 14, .int .i64 18, .int .i64 19, .int .i64 20, .int .i64 22, .int .i64 23, .int .i64 25, .int .i64 26, .int .i64 27, .int .i64 28] 3)
          have hpw : CS (wr.alloc (.cells #[.int .i64 0, .int .i64 6, .int .i64 8, .int .i64 9, .int .i64 10, .int .i64 11, .int .i64 13, .int .i64 14, .int .i64 18, .int .i64 19, .int .i64 20, .int .i64 22, .int .i64 23, .int .i64 25, .int .i64 26, .int .i64 27, .int .i64 28] 3)) (some ⟨wr.heap.size, 0, none⟩) 17 1 (powers.map fun (k : Nat) => Value.int .i64 (k : Int)) :=
            ⟨by decide, by decide, by simp, .inr ⟨_, 0, rfl, fun i v hv => by rw [Nat.zero_add, World.cell?_alloc_at _ _ _ _ rfl, List.getElem?_toArray]; exact hv⟩⟩
          have hne : wr.heap.size ≠ w.heap.size := by
            have := (hown.lt w.heap.size rfl).2; omega
          generalize hW : wr.alloc (.cells #[.int .i64 0, .int .i64 6, .int .i64 8, .int .i64 9, .int .i64 10, .int .i64 11, .int .i64 13, .int .i64 14, .int .i64 18, .int .i64 19, .int .i64 20, .int .i64 22, .int .i64 23, .int .i64 25, .int .i64 26, .int .i64 27, .int .i64 28] 3) = W at hbA hownA hpw
          generalize hS : wr.heap.size = S at hpw hne
          clear hW hb hown
          have Hne := hid hne
          clear hne
          go_loopw [7, 9, 64] (fun i _ _ wr => ∃ k : Nat, k ≤ 8 * l.length ∧ i = .int .i64 k ∧ wr.ownsRow w.heap.size 4 1 (.slice (some ⟨w.heap.size, 0, none⟩) (8 * l.length + 32) (8 * l.length + 32)) (8 * l.length + 32) ((divs k T).map .bool) ∧ CS wr (some ⟨S, 0, none⟩) 17 1 (powers.map fun (k : Nat) => Value.int .i64 (k : Int)) ∧ Below w.heap.size w wr) (fun i _ _ _ => 8 * l.length - (intOf i).toNat)
          case atStart => exact ⟨0, by omega, rfl, hownA, hpw, hbA⟩
          case round =>
            clear hbA hownA hpw hS
            obtain ⟨k, hk, rfl, hown, hpw, hb⟩ := hrel
            have hlen := divs_length k T
            rw [HTl.out] at hlen
            by_cases hlt : k < 8 * l.length
            · obtain ⟨hc1, hf1⟩ := row_at hown k (by omega) (map_get' (by omega))
              have ed : divs (k + 1) T = if (divs k T).getD k false then flips k powers (divs k T) else divs k T := rfl
              generalize hD : divs k T = D at hc1 hown hlen ed
              generalize hbt : D.getD k false = bt at hc1 ed
              have Hed := hid ed
              have HD := hid hlen
              clear hD hbt ed hlen hf1
              cases bt with
              | false =>
                rw [if_neg (by simp)] at Hed
                go_wp2_with fail
                go_roundw
                case rel => exact ⟨k + 1, by omega, by go_num, by rw [Hed.out]; exact hown, hpw, hb⟩
                case measure => simp [intOf]; omega
              | true =>
                rw [if_pos rfl] at Hed
                go_wp2_with fail
                obtain ⟨wo, rfl⟩ : ∃ wo : World, wo = wr := ⟨_, rfl⟩
                clear hc1
                go_loopw [9, 64] (fun _ j wr => ∃ m : Nat, m ≤ 17 ∧ j = .int .i64 m ∧ wr.ownsRow w.heap.size 4 1 (.slice (some ⟨w.heap.size, 0, none⟩) (8 * l.length + 32) (8 * l.length + 32)) (8 * l.length + 32) ((flips k (powers.take m) D).map .bool) ∧ CS wr (some ⟨S, 0, none⟩) 17 1 (powers.map fun (k : Nat) => Value.int .i64 (k : Int)) ∧ Below w.heap.size w wr) (fun _ j _ => 17 - (intOf j).toNat)
                case atStart => exact ⟨0, by omega, rfl, hown, hpw, hb⟩
                case round =>
                  clear hown hpw hb
                  obtain ⟨m, hm, rfl, hown, hpw, hb⟩ := hrel
                  by_cases hm17 : m < 17
                  · have hlen := flips_length k (powers.take m) D
                    rw [HD.out] at hlen
                    have hpk : powers.getD m 0 ≤ 32 := powers_small _ (by
                      rw [List.getD_eq_getElem?_getD, List.getElem?_eq_getElem (show m < powers.length from hm17)]
                      exact List.getElem_mem _)
                    obtain ⟨b', off', e', hh⟩ := hpw.at (by decide)
                    cases e'
                    have hcp := hh m _ (by rw [List.getElem?_map, List.getElem?_eq_getElem (show m < powers.length from hm17)]; rfl)
                    rw [Nat.zero_add] at hcp
                    dsimp only at hcp
                    have epk : powers[m]'(show m < powers.length from hm17) = powers.getD m 0 := by rw [List.getD_eq_getElem?_getD, List.getElem?_eq_getElem (show m < powers.length from hm17)]; rfl
                    rw [epk] at hcp
                    have et := flips_snoc k m D hm17
                    generalize powers.getD m 0 = q at hpk hcp et
                    obtain ⟨hc1, hf1⟩ := row_at hown (k + 32 - q) (by omega) (map_get' (by omega))
                    have Hs := hid (row_store hown (k + 32 - q) (.bool (!(flips k (powers.take m) D).getD (k + 32 - q) false)))
                    have Hg := hid (hown.stored (k + 32 - q) (.bool (!(flips k (powers.take m) D).getD (k + 32 - q) false))).2
                    unfold flipAt at et
                    rw [map_set', ← et] at Hs
                    generalize (flips k (powers.take m) D).getD (k + 32 - q) false = bt at hc1 Hs Hg
                    have hq : (q : Int) ≤ 32 := by omega
                    have Hb := hid hb
                    have Hpw := hid hpw
                    clear hown hb hlen et hh hpw epk
                    go_wp2_with fail
                    go_roundw
                    case rel => exact ⟨m + 1, by omega, by go_num, Hs.out.1, Hpw.out.other Hg.out (by rintro g ⟨⟩; exact Hne.out), Hb.out.trans Hs.out.2⟩
                    case measure => simp [intOf]; omega
                  · obtain rfl : m = 17 := by omega
                    go_wp2_with fail
                    go_roundw
                    case rel => exact ⟨k + 1, by omega, by go_num, by rw [Hed.out]; exact hown, hpw, hb⟩
                    case measure => simp [intOf]; omega
            · obtain rfl : k = 8 * l.length := by omega
              have hfin := ref_crc l
              rw [HT.out] at hfin
              generalize hD : divs (8 * l.length) T = D at hown hfin hlen
              have HD := hid hlen
              have Hfin := hid hfin
              clear hfin hD hpw hlt hk
              go_wp2_with fail
              obtain ⟨wo, rfl⟩ : ∃ wo : World, wo = wr := ⟨_, rfl⟩
              go_loop [10, 11] (fun s i => ∃ m : Nat, m ≤ 32 ∧ i = .int .i64 (31 - (m : Int)) ∧ s = .int .u32 ((valN ((lastOf D).drop ((lastOf D).length - m)) : Nat) : Int)) (fun _ i => (intOf i + 1).toNat)
              case atStart => exact ⟨0, by omega, rfl, by simp [valN]⟩
              case round =>
                obtain ⟨m, hm, rfl, rfl⟩ := hrel
                have hll : (lastOf D).length = 32 := by unfold lastOf; rw [List.length_map, List.length_drop, HD.out]; omega
                by_cases hm32 : m < 32
                · have hv := valN_step (lastOf D) m (by omega)
                  have hlt2 := valN_lt ((lastOf D).drop ((lastOf D).length - m))
                  rw [List.length_drop] at hlt2
                  have hlt3 : valN ((lastOf D).drop ((lastOf D).length - m)) < 2 ^ 31 := Nat.lt_of_lt_of_le hlt2 (Nat.pow_le_pow_right (by omega) (by omega))
                  have hget : (lastOf D).getD ((lastOf D).length - (m + 1)) false = !(D.getD (8 * l.length + (31 - m)) false) := by
                    have hD' := HD.out
                    unfold lastOf
                    rw [List.length_map, List.length_drop, hD', List.getD_eq_getElem?_getD, List.getElem?_map, List.getElem?_drop, List.getElem?_eq_getElem (by omega), List.getD_eq_getElem?_getD, List.getElem?_eq_getElem (by omega)]
                    simp only [Option.map_some, Option.getD_some]
                    congr 2
                    omega
                  rw [hget] at hv
                  have hD' := HD.out
                  obtain ⟨hc1, hf1⟩ := row_at hown (8 * l.length + (31 - m)) (by omega) (map_get' (by omega))
                  generalize valN ((lastOf D).drop ((lastOf D).length - m)) = V at hv hlt3
                  generalize D.getD (8 * l.length + (31 - m)) false = bt at hv hc1
                  have Hv := hid hv
                  have hV : ¬ ((2147483648 : Int) ≤ (V : Int)) := by omega
                  have hm' : (m : Int) < 32 := by omega
                  clear hv hlt2 hlt3 hget hf1 hll hD'
                  cases bt
                  all_goals
                    go_wp2_with fail
                    refine ⟨⟨m + 1, by omega, by congr 1; omega, ?_⟩, by simp only [intOf]; omega⟩
                    rw [Hv.out]
                    congr 1
                    simp
                    try omega
                · obtain rfl : m = 32 := by omega
                  rw [hll, Nat.sub_self, List.drop_zero, Hfin.out]
                  clear hll
                  go_wp2_with fail
                  go_ret
                  exact ⟨rfl, hb⟩
end Go.Proofs.YtoapibbbooongaaDoor

/- The walks of layer 2: marked room behind bytes, the document's example, bits turned, a whole knot, the reference's knot. -/
namespace Go.Proofs.YtoapibbbooongaaDoor
open Go.RowKit Go.Quad _root_.Quad

/-! ### bits turned -/
def turnAt (l : List UInt8) (k : Nat) : List UInt8 := l.set (k / 8) (l.getD (k / 8) 0 ^^^ (1 <<< (UInt8.ofNat (k % 8))))
/-- the first i bits of a pattern, laid from a bit on -/
def turnN (at' : Nat) (pat : Nat) : Nat → List UInt8 → List UInt8
  | 0, l => l
  | i + 1, l => if pat.testBit i && decide (at' + i < 8 * l.length) then turnAt (turnN at' pat i l) (at' + i) else turnN at' pat i l

theorem turnAt_length (l : List UInt8) (k : Nat) : (turnAt l k).length = l.length := by simp [turnAt]
theorem turnN_length (at' pat : Nat) : ∀ (i : Nat) (l : List UInt8), (turnN at' pat i l).length = l.length
  | 0, _ => rfl
  | i + 1, l => by
    simp only [turnN]
    split
    · rw [turnAt_length, turnN_length at' pat i]
    · exact turnN_length at' pat i l

theorem map_u8_set {l : List UInt8} {j : Nat} {c : UInt8} : (l.map u8v).set j (u8v c) = (l.set j c).map u8v := by rw [List.map_set]
theorem map_u8_get {l : List UInt8} {j : Nat} (h : j < l.length) : (l.map u8v)[j]? = some (u8v (l.getD j 0)) := by
  rw [List.getElem?_map, List.getElem?_eq_getElem h, List.getD_eq_getElem?_getD, List.getElem?_eq_getElem h]; rfl

theorem xor_shift (c : UInt8) (j : Nat) (hj : j < 8) : bits .xor .u8 (c.toNat : Int) ((2 : Int) ^ j % 256) = (((c ^^^ (1 <<< (UInt8.ofNat j))).toNat : Nat) : Int) := by
  have h2 : 2 ^ j < 256 := Nat.lt_of_lt_of_le (Nat.pow_lt_pow_right (by omega) hj) (by decide)
  have h3 : (2 : Int) ^ j % 256 = ((2 ^ j : Nat) : Int) := by
    have e : (2 : Int) ^ j = ((2 ^ j : Nat) : Int) := by simp
    rw [e]
    generalize 2 ^ j = n at h2
    omega
  rw [h3]
  rw [u8_xor_nat _ _ c.toNat_lt h2, UInt8.toNat_xor]
  congr 2
  have : ∀ j : Fin 8, 2 ^ j.val = (1 <<< (UInt8.ofNat j.val) : UInt8).toNat := by decide
  exact this ⟨j, hj⟩

def TurnRel (pat at' : Nat) (l : List UInt8) (v5 : Value) (w : World) (p i : Value) (wr : World) : Prop :=
  ∃ k : Nat, k ≤ 32 ∧ i = .int .i64 k ∧ p = .int .u32 ((pat / 2 ^ k : Nat) : Int) ∧ OB wr w.heap.size 5 v5 (turnN at' pat k l) ∧ Below w.heap.size w wr

end Go.Proofs.YtoapibbbooongaaDoor

/- Plain: bits of which a pattern is turned leave another sum; a knot of which a burst is turned is none any more. -/
namespace Go.Proofs.YtoapibbbooongaaDoor
open Go.Quad _root_.Quad

theorem ext_bits {l l' : List Bool} (hl : l.length = l'.length) (h : ∀ q, q < l.length → l.getD q false = l'.getD q false) : l = l' := by
  refine List.ext_getElem hl fun q h1 h2 => ?_
  have := h q h1
  rwa [List.getD_eq_getElem?_getD, List.getElem?_eq_getElem h1, List.getD_eq_getElem?_getD, List.getElem?_eq_getElem h2] at this

theorem turnAt_bits (l : List UInt8) (k q : Nat) (hk : k < 8 * l.length) (hq : q < 8 * l.length) : (bitsOf (turnAt l k)).getD q false = ((bitsOf l).getD q false ^^ decide (q = k)) := by
  rw [bitsOf_get _ q (by rw [turnAt_length]; exact hq), bitsOf_get l q hq]
  unfold turnAt
  have h8 : k % 8 < 8 := Nat.mod_lt _ (by omega)
  have h1 : (1 <<< (UInt8.ofNat (k % 8)) : UInt8).toNat = 2 ^ (k % 8) := by
    have : ∀ j : Fin 8, (1 <<< (UInt8.ofNat j.val) : UInt8).toNat = 2 ^ j.val := by decide
    exact this ⟨_, h8⟩
  by_cases h : q / 8 = k / 8
  · rw [h, List.getD_eq_getElem?_getD, List.getElem?_set_self (by omega), Option.getD_some, UInt8.toNat_xor, Nat.testBit_xor, h1, Nat.testBit_two_pow]
    congr 1
    rw [decide_eq_decide]
    omega
  · rw [List.getD_eq_getElem?_getD, List.getElem?_set_ne (fun e => h e.symm), ← List.getD_eq_getElem?_getD]
    have : ¬ q = k := fun e => h (by rw [e])
    simp [this]

theorem turnN_bits (at' pat : Nat) (l : List UInt8) (q : Nat) (hq : q < 8 * l.length) : ∀ i, (bitsOf (turnN at' pat i l)).getD q false = ((bitsOf l).getD q false ^^ (decide (at' ≤ q ∧ q < at' + i) && pat.testBit (q - at')))
  | 0 => by
    have : ¬ (at' ≤ q ∧ q < at' + 0) := by omega
    rw [decide_eq_false this, Bool.false_and, Bool.xor_false]; rfl
  | i + 1 => by
    have ih := turnN_bits at' pat l q hq i
    simp only [turnN]
    split
    · rename_i hc
      rw [Bool.and_eq_true, decide_eq_true_eq] at hc
      rw [turnAt_bits _ _ _ (by rw [turnN_length]; exact hc.2) (by rw [turnN_length]; exact hq), ih]
      by_cases h : q = at' + i
      · subst h
        have h1 : ¬ (at' ≤ at' + i ∧ at' + i < at' + i) := by omega
        have h2 : (at' ≤ at' + i ∧ at' + i < at' + (i + 1)) := by omega
        simp [h2, hc.1]
      · have h3 : (at' ≤ q ∧ q < at' + (i + 1)) ↔ (at' ≤ q ∧ q < at' + i) := by omega
        simp [h, h3]
    · rename_i hc
      rw [Bool.and_eq_true, decide_eq_true_eq] at hc
      rw [ih]
      by_cases h : q = at' + i
      · subst h
        have h1 : ¬ (at' ≤ at' + i ∧ at' + i < at' + i) := by omega
        have h2 : pat.testBit i = false := by
          cases hb : pat.testBit i with
          | false => rfl
          | true => exact (hc ⟨hb, hq⟩).elim
        simp [h2]
      · have h3 : (at' ≤ q ∧ q < at' + (i + 1)) ↔ (at' ≤ q ∧ q < at' + i) := by omega
        simp [h3]

/-- what is turned, as a list of bits -/
def burst (at' pat n : Nat) : List Bool := List.replicate at' false ++ (List.range (min 32 (n - at'))).map (fun i => pat.testBit i) ++ List.replicate (n - at' - min 32 (n - at')) false

theorem burst_length (at' pat n : Nat) (h : at' ≤ n) : (burst at' pat n).length = n := by
  unfold burst; simp; omega

theorem burst_get (at' pat n q : Nat) (_h : at' ≤ n) (hq : q < n) : (burst at' pat n).getD q false = (decide (at' ≤ q ∧ q < at' + 32) && pat.testBit (q - at')) := by
  unfold burst
  rw [List.getD_eq_getElem?_getD]
  rcases Nat.lt_or_ge q at' with h1 | h1
  · have : ¬ (at' ≤ q ∧ q < at' + 32) := by omega
    rw [List.append_assoc, List.getElem?_append_left (by simpa using h1), List.getElem?_replicate]
    simp [this, h1]
  · rcases Nat.lt_or_ge q (at' + min 32 (n - at')) with h2 | h2
    · have : (at' ≤ q ∧ q < at' + 32) := by omega
      rw [List.getElem?_append_left (by simp; omega), List.getElem?_append_right (by simpa using h1), List.length_replicate, List.getElem?_map, List.getElem?_range (by omega)]
      simp [this]
    · have : ¬ (at' ≤ q ∧ q < at' + 32) := by omega
      rw [List.getElem?_append_right (by simp; omega), List.getElem?_replicate]
      simp only [this, decide_false, Bool.false_and]
      split <;> rfl

theorem turnN_burst (at' pat : Nat) (l : List UInt8) (h : at' ≤ 8 * l.length) : bitsOf (turnN at' pat 32 l) = List.zipWith (· ^^ ·) (bitsOf l) (burst at' pat (8 * l.length)) := by
  have hl : (burst at' pat (8 * l.length)).length = (bitsOf l).length := by rw [burst_length _ _ _ h, bitsOf_length]
  refine ext_bits (by rw [bitsOf_length, turnN_length, List.length_zipWith, hl, Nat.min_self, bitsOf_length]) fun q hq => ?_
  rw [bitsOf_length, turnN_length] at hq
  rw [turnN_bits at' pat l q hq 32, ← burst_get at' pat (8 * l.length) q h hq]
  have h1 : q < (bitsOf l).length := by rw [bitsOf_length]; exact hq
  have h2 : q < (burst at' pat (8 * l.length)).length := by rw [hl]; exact h1
  rw [List.getD_eq_getElem?_getD, List.getD_eq_getElem?_getD, List.getD_eq_getElem?_getD, List.getElem?_eq_getElem h1, List.getElem?_eq_getElem h2, List.getElem?_eq_getElem (by rw [List.length_zipWith]; omega)]
  simp

theorem feed_burst_ne (at' pat n : Nat) (h : at' < n) (hp : pat.testBit 0 = true) : feed 0#32 (burst at' pat n) ≠ 0#32 := by
  unfold burst
  refine feed_burst _ _ _ (by simp; omega) fun hw => ?_
  have := word_get ((List.range (min 32 (n - at'))).map fun i => pat.testBit i) 0 (by omega)
  rw [hw, List.getD_eq_getElem?_getD, List.getElem?_map, List.getElem?_range (by omega)] at this
  simp at this
  rw [Nat.testBit_zero] at hp
  simp at hp
  omega

/-- TWO TEXTS THAT ARE APART WITHIN 32 BITS HAVE UNLIKE SUMS -/
theorem crc_apart (at' pat : Nat) (l : List UInt8) (h : at' < 8 * l.length) (hp : pat.testBit 0 = true) : crc (turnN at' pat 32 l) ≠ crc l := by
  rw [crc_feed, crc_feed, turnN_burst at' pat l (by omega)]
  intro e
  have e' := BitVec.not_inj.1 e
  have := feed_xor (bitsOf l) (burst at' pat (8 * l.length)) (BitVec.allOnes 32) 0#32 (by rw [burst_length _ _ _ (by omega), bitsOf_length])
  rw [BitVec.xor_zero] at this
  rw [this] at e'
  have h0 : feed 0#32 (burst at' pat (8 * l.length)) = 0#32 := by
    have h1 := congrArg (fun x => x ^^^ feed (BitVec.allOnes 32) (bitsOf l)) e'
    simp only [BitVec.xor_self] at h1
    rw [BitVec.xor_comm, ← BitVec.xor_assoc, BitVec.xor_self, BitVec.zero_xor] at h1
    exact h1
  exact feed_burst_ne at' pat _ h hp h0

theorem or_one_bit (p : Nat) : (p ||| 1).testBit 0 = true := by simp
end Go.Proofs.YtoapibbbooongaaDoor

/- Plain: what stands in front of a knot, cut, turned; the walks of Untie, of a text too long, of the reference's knot. -/
namespace Go.Proofs.YtoapibbbooongaaDoor
open Go.RowKit Go.Quad _root_.Quad

def untieL (p : List UInt8) : List UInt8 × Int :=
  if (nextL p).2.2 = 0 then (if 0 < (nextL p).2.1.length then ([], 4) else ((nextL p).1, 0)) else ([], (nextL p).2.2)

theorem tieL_length (t : List UInt8) : (tieL t).length = t.length + 6 := by simp [tieL, frontL, tailL]

theorem lenL_tie (t r : List UInt8) (h : t.length ≤ 2048) : lenL (tieL t ++ r) = t.length := by
  unfold lenL tieL frontL
  simp only [List.cons_append, List.getD_cons_zero, List.getD_cons_succ, UInt8.toNat_ofNat']
  omega

theorem take_front (t r : List UInt8) : (tieL t ++ r).take (t.length + 2) = frontL t := by
  have : (frontL t).length = t.length + 2 := rfl
  rw [← this]; unfold tieL; rw [List.append_assoc]; exact List.take_left

theorem drop_front (t r : List UInt8) : (tieL t ++ r).drop (t.length + 2) = tailL (crc (frontL t)) ++ r := by
  have : (frontL t).length = t.length + 2 := rfl
  rw [← this]; unfold tieL; rw [List.append_assoc]; exact List.drop_left

/-- A KNOT IS READ -/
theorem nextL_tie (t r : List UInt8) (h : t.length ≤ 2048) : nextL (tieL t ++ r) = (t, r, 0) := by
  unfold nextL
  rw [lenL_tie t r h, take_front, drop_front]
  rw [if_neg (by rw [List.length_append, tieL_length]; omega), if_neg (by omega), if_neg (by rw [List.length_append, tieL_length]; omega)]
  have h4 : (tailL (crc (frontL t))).length = 4 := rfl
  rw [if_pos (by rw [← h4, List.take_left]; simp)]
  have h1 : ((tieL t ++ r).drop 2).take t.length = t := by
    unfold tieL frontL
    simp only [List.cons_append, List.drop_succ_cons, List.drop_zero, List.append_assoc]
    exact List.take_left
  have h2 : (tieL t ++ r).drop (t.length + 6) = r := by
    rw [← tieL_length]; exact List.drop_left
  rw [h1, h2]

theorem untieL_tie (t : List UInt8) (h : t.length ≤ 2048) : untieL (tieL t) = (t, 0) := by
  have := nextL_tie t [] h
  rw [List.append_nil] at this
  unfold untieL
  rw [this]
  simp

/-- A KNOT THAT IS CUT IS NONE -/
theorem nextL_cut (t : List UInt8) (m : Nat) (h : t.length ≤ 2048) (hm : m < t.length + 6) : nextL ((tieL t).take m) = ([], [], 2) := by
  have hlen : ((tieL t).take m).length = m := by rw [List.length_take, tieL_length]; omega
  unfold nextL
  by_cases h2 : m < 2
  · rw [if_pos (by rw [hlen]; exact h2)]
  · rw [if_neg (by rw [hlen]; exact h2)]
    have e : lenL ((tieL t).take m) = t.length := by
      have := lenL_tie t [] h
      rw [List.append_nil] at this
      rw [← this]
      unfold lenL
      simp only [List.getD_eq_getElem?_getD, List.getElem?_take]
      rw [if_pos (by omega), if_pos (by omega)]
    rw [e, if_neg (by omega), if_pos (by rw [hlen]; exact hm)]

/-- too long by its head -/
theorem nextL_long (p : List UInt8) (h : 2 ≤ p.length) (hl : 2048 < lenL p) : nextL p = ([], [], 3) := by
  unfold nextL; rw [if_neg (by omega), if_pos hl]

theorem ofNat_bit (x j r : Nat) (hr : r < 8) : (UInt8.ofNat (x / 2 ^ (8 * j))).toNat.testBit r = x.testBit (8 * j + r) := by
  rw [UInt8.toNat_ofNat', Nat.testBit_mod_two_pow, Nat.testBit_div_two_pow, Nat.add_comm r]
  simp [hr]

theorem word_tail (c : BitVec 32) : word (bitsOf (tailL c)) = c := by
  apply BitVec.eq_of_getLsbD_eq
  intro i hi
  rw [word_get _ i hi, bitsOf_get _ i (by show i < 8 * 4; omega), ← BitVec.testBit_toNat]
  have h8 : i % 8 < 8 := Nat.mod_lt _ (by omega)
  have hc : i / 8 = 0 ∨ i / 8 = 1 ∨ i / 8 = 2 ∨ i / 8 = 3 := by omega
  rcases hc with hc | hc | hc | hc <;> rw [hc]
  · have := ofNat_bit c.toNat 0 (i % 8) h8
    rw [show 8 * 0 + i % 8 = i from by omega] at this
    rw [← this]
    simp [tailL]
  · have := ofNat_bit c.toNat 1 (i % 8) h8
    rw [show 8 * 1 + i % 8 = i from by omega] at this
    rw [← this]
    rfl
  · have := ofNat_bit c.toNat 2 (i % 8) h8
    rw [show 8 * 2 + i % 8 = i from by omega] at this
    rw [← this]
    rfl
  · have := ofNat_bit c.toNat 3 (i % 8) h8
    rw [show 8 * 3 + i % 8 = i from by omega] at this
    rw [← this]
    rfl

/-- what a right sum leaves in the register -/
theorem right_sum (d : List UInt8) : feed (BitVec.allOnes 32) (bitsOf (d ++ tailL (crc d))) = stn 32 (BitVec.allOnes 32) := by
  rw [bitsOf_append, feed_append, feed_word _ _ (by rw [bitsOf_length]; exact Nat.le_refl _), bitsOf_length, word_tail, crc_feed]
  show stn 32 _ = _
  congr 1
  apply BitVec.eq_of_getLsbD_eq
  intro i hi
  rw [BitVec.getLsbD_xor, BitVec.getLsbD_not, BitVec.getLsbD_allOnes]
  simp [hi]

/-- EVERY BURST IS FOUND -/
theorem untieL_burst (t : List UInt8) (at' pat : Nat) (h : t.length ≤ 2048) (hat : at' < 8 * (t.length + 6)) (hp : pat.testBit 0 = true) : (untieL (turnN at' pat 32 (tieL t))).2 ≠ 0 := by
  intro hz
  have hl : (turnN at' pat 32 (tieL t)).length = t.length + 6 := by rw [turnN_length, tieL_length]
  have hb := turnN_burst at' pat (tieL t) (by rw [tieL_length]; omega)
  generalize turnN at' pat 32 (tieL t) = k at hz hl hb
  have hk : (k.drop (lenL k + 2)).take 4 = tailL (crc (k.take (lenL k + 2))) ∧ k.length = lenL k + 6 := by
    unfold untieL at hz
    split at hz
    · split at hz
      · simp at hz
      · rename_i h0 h1
        unfold nextL at h0 h1
        rw [if_neg (by omega)] at h0 h1
        split at h0
        · simp at h0
        · rename_i h2
          rw [if_neg h2] at h1
          split at h0
          · simp at h0
          · rename_i h3
            rw [if_neg h3] at h1
            split at h0
            · rename_i h4
              rw [if_pos h4] at h1
              simp only [List.length_drop] at h1
              exact ⟨by simpa using h4, by omega⟩
            · simp at h0
    · rename_i h0; exact (h0 hz).elim
  obtain ⟨hsum, hlen⟩ := hk
  have hlk : lenL k = t.length := by omega
  rw [hlk] at hsum
  have hr : k = k.take (t.length + 2) ++ tailL (crc (k.take (t.length + 2))) := by
    have e4 : (k.drop (t.length + 2)).take 4 = k.drop (t.length + 2) := List.take_of_length_le (by rw [List.length_drop]; omega)
    rw [← hsum, e4, List.take_append_drop]
  have r1 := right_sum (k.take (t.length + 2))
  rw [← hr] at r1
  have r2 := right_sum (frontL t)
  rw [show frontL t ++ tailL (crc (frontL t)) = tieL t from rfl] at r2
  rw [hb] at r1
  have hx := feed_xor (bitsOf (tieL t)) (burst at' pat (8 * (tieL t).length)) (BitVec.allOnes 32) 0#32 (by rw [burst_length _ _ _ (by rw [tieL_length]; omega), bitsOf_length])
  rw [BitVec.xor_zero, r1, r2] at hx
  have h0 : feed 0#32 (burst at' pat (8 * (tieL t).length)) = 0#32 := by
    have h1 := congrArg (fun x => stn 32 (BitVec.allOnes 32) ^^^ x) hx
    simp only [BitVec.xor_self] at h1
    rw [← BitVec.xor_assoc, BitVec.xor_self, BitVec.zero_xor] at h1
    exact h1.symm
  exact feed_burst_ne at' pat _ (by rw [tieL_length]; exact hat) hp h0
end Go.Proofs.YtoapibbbooongaaDoor

/- The walks of layer 2: Untie; a text too long; the reference's knot. -/
namespace Go.Proofs.YtoapibbbooongaaDoor
open Go.RowKit Go.Quad _root_.Quad

end Go.Proofs.YtoapibbbooongaaDoor

/- The walk of the reference's reading of a knot. -/
namespace Go.Proofs.YtoapibbbooongaaDoor
open Go.RowKit Go.Quad _root_.Quad

/-- a new empty slice -/
def IsEmptyB (B : Nat) (v : Value) (w : World) : Prop := ∃ g, v = .slice (some ⟨g, 0, none⟩) 0 0 ∧ B ≤ g ∧ w.heap[g]? = some (.cells #[] 5 (0, 0))

theorem IsEmptyB.below {B : Nat} {v : Value} {w w' : World} (h : IsEmptyB B v w) (hb : Below w.heap.size w w') : IsEmptyB B v w' := by
  obtain ⟨g, e, hg, hh⟩ := h
  exact ⟨g, e, hg, by rw [hb.block g (Array.getElem?_eq_some_iff.1 hh).1]; exact hh⟩

theorem run_append_empty {P : Program} {w : World} (t ty : TypeId) (ht : P.underlying t = some (.slice 5)) (hinf : (P.info? 5).map (fun i => (i.zero, i.size, i.bytes)) = some (some (.int .u8 0), 1, 1))
    {B : Nat} {v : Value} (hv : IsEmptyB B v w) (hB : B ≤ w.heap.size) {a : Option Addr} {c : Nat} {l : List UInt8} (h : BS w a c l) (hn : l.length ≤ 140737488355328) :
    ∃ v' w', (Builtin.append_ #[t, t] ty #[v, .slice a l.length c]).run P w = .ok v' w' ∧ OB w' B 5 v' l ∧ Below w.heap.size w w' := by
  obtain ⟨i, hi, hz0, hz1, hz2⟩ := info_parts hinf
  obtain ⟨g, rfl, hg, hh⟩ := hv
  have hgl : g < w.heap.size := (Array.getElem?_eq_some_iff.1 hh).1
  by_cases h0 : l = []
  · subst h0
    have hown : w.ownsRow B 5 1 (.slice (some ⟨g, 0, none⟩) 0 0) 0 [] := ⟨rfl, .inr ⟨g, 0, #[], rfl, hg, hh, Nat.le_refl _, by simp [maxLen], rfl, rfl⟩⟩
    cases a with
    | none =>
      have hc := h.none rfl
      subst hc
      exact ⟨_, w, run_append_owned_none (P := P) w B t ty 5 i 1 ht hi _ 0 [] hown, hown, Below.refl _ _⟩
    | some x =>
      have hr := run_append_room (P := P) w t ty 5 i ht hi g 0 0 #[] hh x 0 c [] (by simp) (by simp) (by simp) (by simp) (by simp)
      refine ⟨_, _, hr, ?_, ?_⟩
      · refine ⟨rfl, .inr ⟨g, 0, _, rfl, hg, setRow_heap w g #[] _ 5 _ hh, Nat.le_refl _, by simp [maxLen], by simp, by simp⟩⟩
      · refine ⟨rfl, rfl, rfl, by simp, fun k _ => ?_⟩
        by_cases hk : k = g
        · subst hk
          rw [setRow_heap w k #[] _ 5 _ hh, hh]
          simp
        · exact setRow_other w g k _ hk
  · have hpos : 0 < l.length := List.length_pos_iff.2 h0
    obtain ⟨b, off, rfl, hc⟩ := CS.at h (by simpa using hpos)
    have hr := run_append_grow (P := P) w t ty 5 i _ ht hi hz0 ⟨g, 0, none⟩ 0 0 [] (by simp) (by simp) ⟨b, off, none⟩ l.length c (l.map u8v) (by simp [hz1]) (fun j u hj => by
      have := hc j u hj
      unfold Addr.add
      split
      · rename_i h0; subst h0; simpa using this
      · exact this) (by omega) (by omega) (growslice_fits (by omega) (by rw [hz2]; omega))
    refine ⟨_, _, hr, ?_, ?_⟩
    · have hge := grownCap_ge w (0 + l.length) 0 5
      have hcm := grownCap_le_maxLen w (0 + l.length) 0 5 (by unfold maxLen; omega)
      simp only [Nat.zero_add] at hge hcm ⊢
      refine ⟨by simp, .inr ⟨w.heap.size, _, _, rfl, hB, heap_alloc_new w.drew _, hge, hcm, ?_, ?_⟩⟩
      · have hz : ((Value.int .u8 0).cells).size = 1 := rfl
        simp only [Array.size_append, List.size_toArray, List.length_map, List.length_nil, size_zeroCells, hz, Nat.zero_add, Nat.mul_one]
        omega
      · simp
    · exact (below_drew w).trans (below_alloc w.drew _)

theorem opOk_empty {P : Program} {o : Oper} {ρ : Operand → Value} {w : World} {K : Value → World → Prop} (t : TypeId) (_ho : o.op = Op.buildSlice t 0 #[]) (hr : ∀ w : World, (execOp ρ o).run P w = .ok (.value (.slice (some ⟨w.heap.size, 0, none⟩) 0 0)) (w.alloc (.cells #[] 5)))
    {B : Nat} (hB : B ≤ w.heap.size) (hK : ∀ v w', IsEmptyB B v w' → Below w.heap.size w w' → K v w') : OpOk P o ρ w K :=
  opOk_run (hr w) (hK _ _ ⟨w.heap.size, rfl, hB, heap_alloc_new w _⟩ (below_alloc w _))

theorem opOk_append_empty {P : Program} {o : Oper} {ρ : Operand → Value} {w : World} {K : Value → World → Prop} (s x : Operand) (t : TypeId)
    (ho : o.op = .call { callee := .builtin .append, args := #[s, x], argTypes := #[t, t] }) (ht : P.underlying t = some (.slice 5)) (hinf : (P.info? 5).map (fun i => (i.zero, i.size, i.bytes)) = some (some (.int .u8 0), 1, 1))
    {B : Nat} (hv : IsEmptyB B (ρ s) w) (hB : B ≤ w.heap.size) {a : Option Addr} {c : Nat} {l : List UInt8} (hx : ρ x = .slice a l.length c) (h : BS w a c l) (hn : l.length ≤ 140737488355328)
    (hK : ∀ v w', OB w' B 5 v l → Below w.heap.size w w' → K v w') : OpOk P o ρ w K := by
  obtain ⟨v', w', hr, h1, h2⟩ := run_append_empty (P := P) t o.type ht hinf hv hB h hn
  refine opOk_run (v := v') (w' := w') ?_ (hK v' w' h1 h2)
  simp only [execOp, ho, resolve, invoke, builtin, Sem.run_bind, Sem.run_pure, Result.andThen_ok, List.map_toArray, List.map_cons, List.map_nil, hx, hr]

theorem refnext_eq (l : List UInt8) (n : Nat) (h2 : 2 ≤ l.length) (hn : lenL l = n) (hl : n + 6 ≤ l.length) :
    (tieL ((l.drop 2).take n) == l.take (n + 6)) = ((l.drop (n + 2)).take 4 == tailL (crc (l.take (n + 2)))) := by
  have e1 : frontL ((l.drop 2).take n) = l.take (n + 2) := by
    match l, h2 with
    | x :: y :: r, _ =>
      have hlen : ((x :: y :: r).drop 2).take n = r.take n := rfl
      have hr : (r.take n).length = n := by rw [List.length_take]; simp at hl; omega
      unfold lenL at hn
      simp only [List.getD_cons_zero, List.getD_cons_succ] at hn
      have hx := x.toNat_lt
      have hy := y.toNat_lt
      rw [hlen]
      unfold frontL
      rw [hr]
      have ex : UInt8.ofNat n = x := by
        apply UInt8.toNat_inj.1
        rw [UInt8.toNat_ofNat', ← hn]; omega
      have ey : UInt8.ofNat (n / 256) = y := by
        apply UInt8.toNat_inj.1
        rw [UInt8.toNat_ofNat', ← hn]; omega
      rw [ex, ey]
      rfl
  have e2 : l.take (n + 6) = l.take (n + 2) ++ (l.drop (n + 2)).take 4 := by
    rw [show n + 6 = (n + 2) + 4 from by omega, List.take_add]
  unfold tieL
  rw [e1, e2]
  rw [Bool.eq_iff_iff, beq_iff_eq, beq_iff_eq, List.append_right_inj]
  exact eq_comm

end Go.Proofs.YtoapibbbooongaaDoor
