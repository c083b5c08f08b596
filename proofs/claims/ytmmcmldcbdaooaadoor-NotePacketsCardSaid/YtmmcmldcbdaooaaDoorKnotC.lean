/- The walk of the reference's sum: a row of bits, divided. -/
import Derived.Test.YtmmcmldcbdaooaaDoorKnotA
import Derived.Test.YtmmcmldcbdaooaaDoorCrcRef
namespace Go.Proofs.YtmmcmldcbdaooaaDoor
open Go.RowKit Go.Quad _root_.Quad

theorem under_bools : Tryd.prog.underlying 130 = some (.slice 4) := by kernel_rfl
theorem info_bool : (Tryd.prog.info? 4).map (fun i => (i.zero, i.size, i.bytes)) = some (some (.bool false), 1, 1) := by kernel_rfl

theorem map_set' {l : List Bool} {j : Nat} {b : Bool} : (l.map Value.bool).set j (.bool b) = (l.set j b).map .bool := by rw [List.map_set]
theorem map_get' {l : List Bool} {j : Nat} (h : j < l.length) : (l.map Value.bool)[j]? = some (.bool (l.getD j false)) := by
  rw [List.getElem?_map, List.getElem?_eq_getElem h, List.getD_eq_getElem?_getD, List.getElem?_eq_getElem h]; rfl

set_option maxRecDepth 100000 in
set_option maxHeartbeats 1000000 in
theorem refsum_calls (a : Option Addr) (cap : Nat) (l : List UInt8) (w : World) (h : BS w a cap l) (hl : l.length ≤ 1000000) :
    Calls Tryd.prog 68 #[.slice a l.length cap] w fun e w' => e = .returned (.int .u32 ((crc l).toNat : Int)) ∧ Below w.heap.size w w' := by
  obtain ⟨i0, hi, hz0, hz1, hz2⟩ := info_parts info_bool
  have hl' : ((l.length : Nat) : Int) ≤ 1000000 := by omega
  have Hi := hid hi; have Hz0 := hid hz0; have Hz1 := hid hz1; have Hz2 := hid hz2
  have H := hid h
  clear hi hz0 hz1 hz2 h
  go_enter Tryd.func68, Tryd.ntmps68
  go_wp2_with (at_make; refine wpList_make_full _ rfl (.tmp 15) (.tmp 15) _ rfl w.heap.size 4 i0 (.bool false) 1 under_bools Hi.out Hz0.out Hz1.out .i64 .i64 _ _ (8 * l.length + 32) rfl rfl (by omega) (by omega) (by rw [Hz2.out]; omega) (by unfold maxLen; omega) (Nat.le_refl _) ?_; intro w1 hown hgr)
  have hb1 : Below w.heap.size w w1 := grownBy_below hgr (Nat.le_refl _) (by simp)
  have hown1 := row_made w1 rfl hown
  clear hown hgr
  go_loopw [4, 20] (fun _ i wr => ∃ k : Nat, k ≤ 8 * l.length ∧ i = .int .i64 k ∧ wr.ownsRow w.heap.size 4 1 (.slice (some ⟨w.heap.size, 0, none⟩) (8 * l.length + 32) (8 * l.length + 32)) (8 * l.length + 32) ((filled l k).map .bool) ∧ Below w.heap.size w wr) (fun _ i _ => 8 * l.length - (intOf i).toNat)
  case atStart => exact ⟨0, by omega, rfl, by simpa [filled] using hown1, hb1⟩
  case round =>
    clear hown1 hb1
    obtain ⟨k, hk, rfl, hown, hb⟩ := hrel
    by_cases hlt : k < 8 * l.length
    · obtain ⟨b, off, rfl, hh⟩ := H.out.get (by omega)
      obtain ⟨x, hx, hx1, hc⟩ := hh (k / 8) (by omega)
      have hc' := cell_later hb hc
      have h8 : ((k : Int) / 8) < (l.length : Int) := by omega
      have hlen := filled_length l k hk
      obtain ⟨hc1, hf1⟩ := row_at hown k (by omega) (map_get' (by omega))
      have hbit := bit_num x (k % 8)
      rw [← hx, ← bitsOf_get l k hlt, hx] at hbit
      have Hs := hid (row_store hown k (.bool ((bitsOf l).getD k false)))
      rw [map_set', filled_succ l k hlt] at Hs
      generalize (bitsOf l).getD k false = bt at hbit Hs
      have Hb := hid hb
      clear hh hc hx hown hb hlen
      go_wp2_with fail
      go_roundw
      case rel => exact ⟨k + 1, by omega, by go_num, Hs.out.1, Hb.out.trans Hs.out.2⟩
      case measure => simp [intOf]; omega
    · obtain rfl : k = 8 * l.length := by omega
      rw [filled_all] at hown
      have Hl := hid hl
      clear hlt hk hl
      go_wp2_with fail
      go_loopw [5, 38] (fun _ i wr => ∃ k : Nat, k ≤ 32 ∧ i = .int .i64 k ∧ wr.ownsRow w.heap.size 4 1 (.slice (some ⟨w.heap.size, 0, none⟩) (8 * l.length + 32) (8 * l.length + 32)) (8 * l.length + 32) ((turned k (startBits l)).map .bool) ∧ Below w.heap.size w wr) (fun _ i _ => 32 - (intOf i).toNat)
      case atStart => exact ⟨0, by omega, rfl, hown, hb⟩
      case round =>
        clear hown hb
        obtain ⟨k, hk, rfl, hown, hb⟩ := hrel
        by_cases hlt : k < 32
        · have hlen := turned_length k (startBits l)
          rw [startBits_length] at hlen
          obtain ⟨hc1, hf1⟩ := row_at hown k (by omega) (map_get' (by omega))
          have Hs := hid (row_store hown k (.bool (!(turned k (startBits l)).getD k false)))
          have et := turned_succ k (startBits l)
          unfold flipAt at et
          rw [map_set', ← et] at Hs
          generalize (turned k (startBits l)).getD k false = bt at hc1 Hs
          have Hb := hid hb
          clear hown hb hlen et
          go_wp2_with fail
          go_roundw
          case rel => exact ⟨k + 1, by omega, by go_num, Hs.out.1, Hb.out.trans Hs.out.2⟩
          case measure => simp [intOf]; omega
        · obtain rfl : k = 32 := by omega
          generalize hT : turned 32 (startBits l) = T at hown
          have hTl : T.length = 8 * l.length + 32 := by rw [← hT, turned_length, startBits_length]
          have HT := hid hT
          have HTl := hid hTl
          clear hlt hk hT hTl
          go_wp2_with fail
          have hbA := hb.alloc hb.size (.cells #[.int .i64 0, .int .i64 6, .int .i64 8, .int .i64 9, .int .i64 10, .int .i64 11, .int .i64 13, .int .i64 14, .int .i64 18, .int .i64 19, .int .i64 20, .int .i64 22, .int .i64 23, .int .i64 25, .int .i64 26, .int .i64 27, .int .i64 28] 3)
          have hownA := hown.alloc (.cells #[.int .i64 0, .int .i64 6, .int .i64 8, .int .i64 9, .int .i64 10, .int .i64 11, .int .i64 13, .int .i64 14, .int .i64 18, .int .i64 19, .int .i64 20, .int .i64 22, .int .i64 23, .int .i64 25, .int .i64 26, .int .i64 27, .int .i64 28] 3)
          have hpw : CS (wr.alloc (.cells #[.int .i64 0, .int .i64 6, .int .i64 8, .int .i64 9, .int .i64 10, .int .i64 11, .int .i64 13, .int .i64 14, .int .i64 18, .int .i64 19, .int .i64 20, .int .i64 22, .int .i64 23, .int .i64 25, .int .i64 26, .int .i64 27, .int .i64 28] 3)) (some ⟨wr.heap.size, 0, none⟩) 17 1 (powers.map fun (k : Nat) => Value.int .i64 (k : Int)) :=
            ⟨by decide, by decide, by simp, .inr ⟨_, 0, rfl, fun i v hv => by rw [Nat.zero_add, World.cell?_alloc_at _ _ _ _ rfl, List.getElem?_toArray]; exact hv⟩⟩
          have hne : wr.heap.size ≠ w.heap.size := by
            have := (hown.lt w.heap.size rfl).2; omega
          generalize hW : wr.alloc (.cells #[.int .i64 0, .int .i64 6, .int .i64 8, .int .i64 9, .int .i64 10, .int .i64 11, .int .i64 13, .int .i64 14, .int .i64 18, .int .i64 19, .int .i64 20, .int .i64 22, .int .i64 23, .int .i64 25, .int .i64 26, .int .i64 27, .int .i64 28] 3) = W at hbA hownA hpw
          generalize hS : wr.heap.size = S at hpw hne
          clear hW hb hown
          have Hne := hid hne
          clear hne
          go_loopw [7, 9, 64] (fun i _ _ wr => ∃ k : Nat, k ≤ 8 * l.length ∧ i = .int .i64 k ∧ wr.ownsRow w.heap.size 4 1 (.slice (some ⟨w.heap.size, 0, none⟩) (8 * l.length + 32) (8 * l.length + 32)) (8 * l.length + 32) ((divs k T).map .bool) ∧ CS wr (some ⟨S, 0, none⟩) 17 1 (powers.map fun (k : Nat) => Value.int .i64 (k : Int)) ∧ Below w.heap.size w wr) (fun i _ _ _ => 8 * l.length - (intOf i).toNat)
          case atStart => exact ⟨0, by omega, rfl, hownA, hpw, hbA⟩
          case round =>
            clear hbA hownA hpw hS
            obtain ⟨k, hk, rfl, hown, hpw, hb⟩ := hrel
            have hlen := divs_length k T
            rw [HTl.out] at hlen
            by_cases hlt : k < 8 * l.length
            · obtain ⟨hc1, hf1⟩ := row_at hown k (by omega) (map_get' (by omega))
              have ed : divs (k + 1) T = if (divs k T).getD k false then flips k powers (divs k T) else divs k T := rfl
              generalize hD : divs k T = D at hc1 hown hlen ed
              generalize hbt : D.getD k false = bt at hc1 ed
              have Hed := hid ed
              have HD := hid hlen
              clear hD hbt ed hlen hf1
              cases bt with
              | false =>
                rw [if_neg (by simp)] at Hed
                go_wp2_with fail
                go_roundw
                case rel => exact ⟨k + 1, by omega, by go_num, by rw [Hed.out]; exact hown, hpw, hb⟩
                case measure => simp [intOf]; omega
              | true =>
                rw [if_pos rfl] at Hed
                go_wp2_with fail
                obtain ⟨wo, rfl⟩ : ∃ wo : World, wo = wr := ⟨_, rfl⟩
                clear hc1
                go_loopw [9, 64] (fun _ j wr => ∃ m : Nat, m ≤ 17 ∧ j = .int .i64 m ∧ wr.ownsRow w.heap.size 4 1 (.slice (some ⟨w.heap.size, 0, none⟩) (8 * l.length + 32) (8 * l.length + 32)) (8 * l.length + 32) ((flips k (powers.take m) D).map .bool) ∧ CS wr (some ⟨S, 0, none⟩) 17 1 (powers.map fun (k : Nat) => Value.int .i64 (k : Int)) ∧ Below w.heap.size w wr) (fun _ j _ => 17 - (intOf j).toNat)
                case atStart => exact ⟨0, by omega, rfl, hown, hpw, hb⟩
                case round =>
                  clear hown hpw hb
                  obtain ⟨m, hm, rfl, hown, hpw, hb⟩ := hrel
                  by_cases hm17 : m < 17
                  · have hlen := flips_length k (powers.take m) D
                    rw [HD.out] at hlen
                    have hpk : powers.getD m 0 ≤ 32 := powers_small _ (by
                      rw [List.getD_eq_getElem?_getD, List.getElem?_eq_getElem (show m < powers.length from hm17)]
                      exact List.getElem_mem _)
                    obtain ⟨b', off', e', hh⟩ := hpw.at (by decide)
                    cases e'
                    have hcp := hh m _ (by rw [List.getElem?_map, List.getElem?_eq_getElem (show m < powers.length from hm17)]; rfl)
                    rw [Nat.zero_add] at hcp
                    dsimp only at hcp
                    have epk : powers[m]'(show m < powers.length from hm17) = powers.getD m 0 := by rw [List.getD_eq_getElem?_getD, List.getElem?_eq_getElem (show m < powers.length from hm17)]; rfl
                    rw [epk] at hcp
                    have et := flips_snoc k m D hm17
                    generalize powers.getD m 0 = q at hpk hcp et
                    obtain ⟨hc1, hf1⟩ := row_at hown (k + 32 - q) (by omega) (map_get' (by omega))
                    have Hs := hid (row_store hown (k + 32 - q) (.bool (!(flips k (powers.take m) D).getD (k + 32 - q) false)))
                    have Hg := hid (hown.stored (k + 32 - q) (.bool (!(flips k (powers.take m) D).getD (k + 32 - q) false))).2
                    unfold flipAt at et
                    rw [map_set', ← et] at Hs
                    generalize (flips k (powers.take m) D).getD (k + 32 - q) false = bt at hc1 Hs Hg
                    have hq : (q : Int) ≤ 32 := by omega
                    have Hb := hid hb
                    have Hpw := hid hpw
                    clear hown hb hlen et hh hpw epk
                    go_wp2_with fail
                    go_roundw
                    case rel => exact ⟨m + 1, by omega, by go_num, Hs.out.1, Hpw.out.other Hg.out (by rintro g ⟨⟩; exact Hne.out), Hb.out.trans Hs.out.2⟩
                    case measure => simp [intOf]; omega
                  · obtain rfl : m = 17 := by omega
                    go_wp2_with fail
                    go_roundw
                    case rel => exact ⟨k + 1, by omega, by go_num, by rw [Hed.out]; exact hown, hpw, hb⟩
                    case measure => simp [intOf]; omega
            · obtain rfl : k = 8 * l.length := by omega
              have hfin := ref_crc l
              rw [HT.out] at hfin
              generalize hD : divs (8 * l.length) T = D at hown hfin hlen
              have HD := hid hlen
              have Hfin := hid hfin
              clear hfin hD hpw hlt hk
              go_wp2_with fail
              obtain ⟨wo, rfl⟩ : ∃ wo : World, wo = wr := ⟨_, rfl⟩
              go_loop [10, 11] (fun s i => ∃ m : Nat, m ≤ 32 ∧ i = .int .i64 (31 - (m : Int)) ∧ s = .int .u32 ((valN ((lastOf D).drop ((lastOf D).length - m)) : Nat) : Int)) (fun _ i => (intOf i + 1).toNat)
              case atStart => exact ⟨0, by omega, rfl, by simp [valN]⟩
              case round =>
                obtain ⟨m, hm, rfl, rfl⟩ := hrel
                have hll : (lastOf D).length = 32 := by unfold lastOf; rw [List.length_map, List.length_drop, HD.out]; omega
                by_cases hm32 : m < 32
                · have hv := valN_step (lastOf D) m (by omega)
                  have hlt2 := valN_lt ((lastOf D).drop ((lastOf D).length - m))
                  rw [List.length_drop] at hlt2
                  have hlt3 : valN ((lastOf D).drop ((lastOf D).length - m)) < 2 ^ 31 := Nat.lt_of_lt_of_le hlt2 (Nat.pow_le_pow_right (by omega) (by omega))
                  have hget : (lastOf D).getD ((lastOf D).length - (m + 1)) false = !(D.getD (8 * l.length + (31 - m)) false) := by
                    have hD' := HD.out
                    unfold lastOf
                    rw [List.length_map, List.length_drop, hD', List.getD_eq_getElem?_getD, List.getElem?_map, List.getElem?_drop, List.getElem?_eq_getElem (by omega), List.getD_eq_getElem?_getD, List.getElem?_eq_getElem (by omega)]
                    simp only [Option.map_some, Option.getD_some]
                    congr 2
                    omega
                  rw [hget] at hv
                  have hD' := HD.out
                  obtain ⟨hc1, hf1⟩ := row_at hown (8 * l.length + (31 - m)) (by omega) (map_get' (by omega))
                  generalize valN ((lastOf D).drop ((lastOf D).length - m)) = V at hv hlt3
                  generalize D.getD (8 * l.length + (31 - m)) false = bt at hv hc1
                  have Hv := hid hv
                  have hV : ¬ ((2147483648 : Int) ≤ (V : Int)) := by omega
                  have hm' : (m : Int) < 32 := by omega
                  clear hv hlt2 hlt3 hget hf1 hll hD'
                  cases bt
                  all_goals
                    go_wp2_with fail
                    refine ⟨⟨m + 1, by omega, by congr 1; omega, ?_⟩, by simp only [intOf]; omega⟩
                    rw [Hv.out]
                    congr 1
                    simp
                    try omega
                · obtain rfl : m = 32 := by omega
                  rw [hll, Nat.sub_self, List.drop_zero, Hfin.out]
                  clear hll
                  go_wp2_with fail
                  go_ret
                  exact ⟨rfl, hb⟩
end Go.Proofs.YtmmcmldcbdaooaaDoor
