/- The walk of InkBack: whatever is written is read again, one by one, as what it was, to the end. -/
import Derived.Test.YtaepinficmjnpaaInkWrites
import Derived.Test.YtaepinficmjnpaaInkD
import Derived.Deep.RegionWith
import Derived.BigRegion
namespace Go.Proofs.Ytaepinficmjnpaa
open Go.RowKit Go.Quad _root_.Quad.Ink

theorem op_cells {w : World} {a : Option Addr} {cap : Nat} {l : List OpD} (h : CS w a cap 3 (l.flatMap opV)) {k : Nat} (hk : k < l.length) :
    ∃ bo off, a = some ⟨bo, off, none⟩ ∧ w.cell? ⟨bo, off + k * 3, none⟩ = some (.int .u8 (l[k].d : Int)) ∧ w.cell? ⟨bo, off + k * 3 + 1, none⟩ = some (.int .i64 l[k].n) ∧ w.cell? ⟨bo, off + k * 3 + 2, none⟩ = some (.slice l[k].a l[k].t.length l[k].cap) := by
  obtain ⟨bo, off, e, hc⟩ := h.at (by rw [flat_length opV 3 opV_length]; omega)
  have hx : l[k]? = some l[k] := List.getElem?_eq_getElem hk
  exact ⟨bo, off, e, hc _ _ (flat_get opV 3 opV_length l k 0 _ hx (by omega)), hc _ _ (flat_get opV 3 opV_length l k 1 _ hx (by omega)), hc _ _ (flat_get opV 3 opV_length l k 2 _ hx (by omega))⟩

def u64N (n : Int) : Nat := (IntKind.u64.wrap n).toNat
def u32N (n : Int) : Nat := (IntKind.u32.wrap n).toNat
def cutT (t : List UInt8) : List UInt8 := if t.length ≤ 50 then t else t.take 50

/-- what is written for one -/
def encO (d : Nat) (n : Int) (t : List UInt8) : List UInt8 :=
  if d % 4 = 0 then numL (u64N n) else if d % 4 = 1 then numL (u32N n / 2) else if d % 4 = 2 then numL (if 0 < n then 1 else 0) else numL t.length ++ t
def enc (o : OpD) : List UInt8 := encO o.d o.n (cutT o.t)

theorem u64N_of (n : Int) : IntKind.u64.wrap n = (u64N n : Int) ∧ u64N n < 18446744073709551616 := by
  obtain ⟨u, h1, h2⟩ := u64_of n
  unfold u64N
  rw [h1]
  exact ⟨by simp, by simpa using h2⟩
theorem u32N_of (n : Int) : IntKind.u32.wrap n = (u32N n : Int) ∧ u32N n < 4294967296 := by
  unfold u32N
  rw [IntKind.wrap_u32]
  omega

theorem encO_len (d : Nat) (n : Int) (t : List UInt8) (h : t.length ≤ 50) : (encO d n t).length ≤ 70 := by
  unfold encO
  have h1 := numL_len10 (u64N_of n).2
  have h2 := numL_len10 (n := u32N n / 2) (by have := (u32N_of n).2; omega)
  have h3 := numL_len10 (n := if 0 < n then 1 else 0) (by split <;> omega)
  have h4 := numL_len10 (n := t.length) (by omega)
  split
  · omega
  · split
    · omega
    · split
      · omega
      · rw [List.length_append]; omega

theorem cutT_len (t : List UInt8) : (cutT t).length ≤ 50 := by
  unfold cutT; split
  · assumption
  · rw [List.length_take]; omega

theorem encs_len : ∀ l : List OpD, (l.flatMap enc).length ≤ l.length * 70
  | [] => by simp
  | o :: l => by
    rw [List.flatMap_cons, List.length_append, List.length_cons]
    have := encs_len l
    have h2 : (enc o).length ≤ 70 := encO_len o.d o.n (cutT o.t) (cutT_len _)
    omega

theorem encs_snoc (l : List OpD) {k : Nat} (hk : k < l.length) : (l.take (k + 1)).flatMap enc = (l.take k).flatMap enc ++ enc l[k] := by
  rw [List.take_succ_eq_append_getElem hk, List.flatMap_append]; simp
theorem encs_drop (l : List OpD) {k : Nat} (hk : k < l.length) : (l.drop k).flatMap enc = enc l[k] ++ (l.drop (k + 1)).flatMap enc := by
  rw [List.drop_eq_getElem_cons hk, List.flatMap_cons]

/-- what the first loop keeps -/
def BkRel (l : List OpD) (B g : Nat) (w0 : World) (i : Value) (wr : World) : Prop :=
  ∃ (k : Nat) (s : Value), i = .int .i64 (k : Int) ∧ k ≤ l.length ∧ IsPen wr B g s ((l.take k).flatMap enc) false ∧ Below B w0 wr
/-- what the second loop keeps -/
def BkRel2 (l : List OpD) (B ge : Nat) (w0 : World) (i : Value) (wr : World) : Prop :=
  ∃ (k : Nat), i = .int .i64 (k : Int) ∧ k ≤ l.length ∧ EyeAt wr B ge ((l.drop k).flatMap enc) false ∧ Below B w0 wr

theorem numS_of (u : Nat) (h : u < 18446744073709551616) (r : List UInt8) : numS (numL u ++ r, false) = (u, r, false) := by
  simp only [numS, numTo, rd_num0 r h, Bool.false_eq_true, if_false]
theorem intS_of (u : Nat) (h : u ≤ 2147483647) (r : List UInt8) : intS (numL u ++ r, false) = (u, r, false) := by
  unfold intS; rw [numS_of u (by omega), if_neg (by dsimp only; omega)]
theorem boolS_of (b : Bool) (r : List UInt8) : boolS (numL (if b then 1 else 0) ++ r, false) = (b, r, false) := by
  unfold boolS; rw [numS_of _ (by split <;> omega)]
  cases b <;> simp
theorem textS_of (t : List UInt8) (h : t.length ≤ 50) (r : List UInt8) : textS (numL t.length ++ t ++ r, false) = (t, r, false) := by
  unfold textS; rw [List.append_assoc, numS_of _ (by omega)]
  dsimp only
  rw [if_neg (by decide), if_neg (by rw [List.length_append]; omega), List.take_left, List.drop_left]

theorem read_n (a : Option Addr) (n cap : Nat) (l : List UInt8) (w : World) (hl : l.length = n) (h : BS w a cap l) (hn : l.length ≤ 140737488355328) :
    Calls Try.prog 15 #[.slice a n cap] w fun e w' => ∃ g, e = .returned (.pointer (some ⟨g, 0, none⟩)) ∧ EyeAt w' w.heap.size g l false ∧ Below w.heap.size w w' := by
  subst hl; exact read_calls a cap l w h hn

/-- bytes cut: at most m of them -/
theorem cut_at {w : World} {a : Option Addr} {cap : Nat} {l : List UInt8} (h : BS w a cap l) : BS w a cap (cutT l) := by
  unfold cutT; split
  · exact h
  · exact h.take 50

theorem ops_cut {w : World} {a : Option Addr} {cap : Nat} {l : List OpD} (h : CS w a cap 3 (l.flatMap opV)) : CS w a cap 3 ((l.take 60).flatMap opV) := by
  have := h.take (60 * 3)
  have e : (l.flatMap opV).take (60 * 3) = (l.take 60).flatMap opV := by
    by_cases hl : l.length ≤ 60
    · rw [List.take_of_length_le hl, List.take_of_length_le]
      rw [flat_length opV 3 opV_length]; omega
    · have hlen := flat_length opV 3 opV_length (l.take 60)
      conv => lhs; rw [← List.take_append_drop 60 l, List.flatMap_append]
      rw [List.take_left' (by rw [hlen, List.length_take]; omega)]
  rwa [e] at this

set_option maxRecDepth 20000 in
set_option maxHeartbeats 16000000 in
theorem inkBack_walk (v : Value) (w : World) (h : RV Try.prog w 37 v) :
    Calls Try.prog 7 #[v] w fun e w' => e = .returned (.bool true) ∧ Below w.heap.size w w' := by
  obtain ⟨a, cap, l0, rfl, hok, hcs, hlc⟩ := ops_open h
  have hmx := CS.max hcs
  have hl : (l0.length : Int) ≤ 9223372036854775807 := by unfold maxLen at hmx; omega
  have hcm : (cap : Int) ≤ 9223372036854775807 := by unfold maxLen at hmx; omega
  obtain ⟨l, N, hN, hN60, hok', hcs', hcase⟩ : ∃ (l : List OpD) (N : Nat), l.length = N ∧ N ≤ 60 ∧ (∀ o ∈ l, OkOp w o) ∧ CS w a cap 3 (l.flatMap opV) ∧ ((l0.length ≤ 60 ∧ N = l0.length) ∨ (60 < l0.length ∧ N = 60)) := by
    refine ⟨l0.take 60, _, rfl, by rw [List.length_take]; omega, fun o ho => hok o (List.mem_of_mem_take ho), ops_cut hcs, ?_⟩
    rw [List.length_take]
    omega
  have Hok := hid hok'
  have Hcs := hid hcs'
  have HN := hid hN
  have H60 := hid hN60
  clear h hok hcs hmx hok' hcs' hN hN60
  go_enter Try.func7, Try.ntmps7
  go_upto_region 3 with (go_at_call 9; refine (awake_calls w).mono ?_; rintro e w1 ⟨rfl, hb1⟩; have H1 := hid hb1; clear hb1)
  go_cut [0] from 12 to 113 (fun s0 w' => s0 = .slice a N cap ∧ w' = w1)
  case first =>
    rcases hcase with ⟨hs, rfl⟩ | ⟨hs, rfl⟩
    all_goals
      go_wp2_with fail
      go_meet
      case rel => exact ⟨rfl, rfl⟩
  case rest =>
    obtain ⟨rfl, rfl⟩ := hcut
    obtain ⟨M, rfl⟩ : ∃ M : Nat, M = N := ⟨N, rfl⟩
    have hM60 : (M : Int) ≤ 60 := by have := H60.out; omega
    go_wp2_with fail
    refine (new_calls _).mono ?_
    rintro e w2 ⟨g, rfl, hp, hg, hb2⟩
    have P2 := hid (hp.base H1.out.size)
    have H2 := hid (H1.out.trans (hb2.mono H1.out.size))
    clear hp hg hb2
    go_wp2_with fail
    go_loopw [20] (fun i wr => BkRel l w.heap.size g w i wr) (fun i _ => M - (intOf i).toNat)
    case atStart => exact ⟨0, _, rfl, Nat.zero_le _, P2.out, H2.out⟩
    case round =>
      obtain ⟨k, s, rfl, hk, hP, hB⟩ := hrel
      have P := hid hP
      have HB := hid hB
      rw [HN.out] at hk
      clear hP hB
      by_cases hkm : k < M
      · have hkl : k < l.length := by rw [HN.out]; exact hkm
        obtain ⟨bo, off, rfl, hc0, hc1, hc2⟩ := op_cells Hcs.out hkl
        have Ho := hid (Hok.out _ (List.getElem_mem hkl))
        replace hc0 := cell_later HB.out hc0
        replace hc1 := cell_later HB.out hc1
        replace hc2 := cell_later HB.out hc2
        have Ln := hid (encs_len (l.take k))
        have Sn := hid (show (l.take (k + 1)).flatMap enc = (l.take k).flatMap enc ++ encO l[k].d l[k].n (cutT l[k].t) from encs_snoc l hkl)
        generalize l[k] = o at Ho hc0 hc1 hc2 Sn
        obtain ⟨od, on, oa, oc, ot⟩ := o
        obtain ⟨hod, hon, hot⟩ := Ho.out
        dsimp only at hc0 hc1 hc2 hod hon hot
        have hot0 := hid hot
        have hot0 := hid hot
        have hot0 := hid hot
        have hot0 := hid hot
        have hot0 := hid hot
        have hot0 := hid hot
        have hot0 := hid hot
        have Hot := hid (hot.below HB.out)
        have hotm := hot.max'
        have hotf := hot.fit'
        clear hot Ho
        have hkm' : (k : Int) < (M : Int) := by omega
        have hend : True := trivial
        have Hkm := hid hkm
        have PA : Kept (∀ X, IsPen (wr.alloc X) w.heap.size g s ((l.take k).flatMap enc) false) := ⟨fun X => P.out.below (below_alloc wr X)⟩
        have BA : Kept (∀ X, Below w.heap.size w (wr.alloc X)) := ⟨fun X => HB.out.trans ((below_alloc wr X).mono HB.out.size)⟩
        have TA : Kept (∀ X, BS (wr.alloc X) oa oc ot) := ⟨fun X => Hot.out.below (below_alloc wr X)⟩
        have OA : Kept (OffPen g s oa (cutT ot)) := ⟨by
          rcases Nat.eq_zero_or_pos ot.length with h0 | h0
          · left; unfold cutT; rw [if_pos (by omega)]; exact List.eq_nil_of_length_eq_zero h0
          · right
            intro x hx hm
            obtain ⟨b', o', e', hc'⟩ := (hot0.out).at h0
            rw [e'] at hx
            cases hx
            have h1 := World.block_lt_of_cell? w _ (hc' 0 h0)
            have h2 := P.out.pens _ hm
            dsimp only at h1 h2
            omega⟩
        by_cases h0 : od % 4 = 0
        · have hx0 : (((od : Int) % 4) == 0) = true := by rw [beq_iff_eq]; omega
          obtain ⟨hu, hu2⟩ := u64N_of on
          have en : encO od on (cutT ot) = numL (u64N on) := by unfold encO; rw [if_pos h0]
          generalize u64N on = u at hu hu2 en
          have Hu := hid hu2
          have En0 := hid en
          clear hu2 en
          have En := hid (show encO od on (cutT ot) = numL u from En0.out)
          go_wp2_with fail
          refine (pnum_any u Hu.out (wr.alloc _) _ g s _ false (PA.out _) (by have := Ln.out; rw [List.length_take] at this; omega)).mono ?_
          rintro e w4 ⟨rfl, s4, hp4, hc4, hs4⟩
          have P4 := hid hp4
          have B4 := hid (below_chg (BA.out _) (BA.out _).size hc4 P.out.pens)
          clear hp4 hc4 hs4
          go_wp2_with fail
          have RR : BkRel l w.heap.size g w (.int .i64 ((k : Int) + 1)) w4 :=
            ⟨k + 1, s4, by go_num, by have := HN.out; omega, by rw [Sn.out, En.out]; exact P4.out, B4.out⟩
          refine ⟨?_, by simp [intOf]; omega⟩
          first | exact RR | ((repeat apply Exists.intro); refine ⟨RR, ?_⟩; and_intros <;> rfl)
        by_cases h1 : od % 4 = 1
        · have hx0 : (((od : Int) % 4) == 0) = false := by rw [beq_eq_false_iff_ne]; omega
          have hx1 : (((od : Int) % 4) == 1) = true := by rw [beq_iff_eq]; omega
          obtain ⟨hu, hu2⟩ := u32N_of on
          have en : encO od on (cutT ot) = numL (u32N on / 2) := by unfold encO; rw [if_neg h0, if_pos h1]
          generalize u32N on = u at hu hu2 en
          have hu3 : (u : Int) ≤ 4294967295 := by omega
          have In : Kept (intN ((u : Int) / 2) false ((l.take k).flatMap enc) = (l.take k).flatMap enc ++ numL (u / 2)) := ⟨by
            unfold intN
            rw [if_neg (by omega), show ((u : Int) / 2).toNat = u / 2 by omega]
            rfl⟩
          have Dn : Kept ((false || decide ((u : Int) / 2 < 0)) = false) := ⟨by simp; omega⟩
          have Pi : Kept (∀ X, Calls Try.prog 18 #[.pointer (some ⟨g, 0, none⟩), .int .i64 ((u : Int) / 2)] (wr.alloc X) (PenTo (wr.alloc X) w.heap.size g s ((l.take k).flatMap enc ++ numL (u / 2)) false)) := ⟨fun X => by
            have h := pint_any ((u : Int) / 2) (by omega) (wr.alloc X) _ g s _ false (PA.out _) (by have := Ln.out; rw [List.length_take] at this; omega)
            rw [In.out, Dn.out] at h
            exact h⟩
          have En0 := hid en
          clear en hu2
          have En := hid (show encO od on (cutT ot) = numL (u / 2) from En0.out)
          go_wp2_with fail
          refine (Pi.out _).mono ?_
          rintro e w4 ⟨rfl, s4, hp4, hc4, hs4⟩
          have P4 := hid hp4
          have B4 := hid (below_chg (BA.out _) (BA.out _).size hc4 P.out.pens)
          clear hp4 hc4 hs4
          go_wp2_with fail
          have RR : BkRel l w.heap.size g w (.int .i64 ((k : Int) + 1)) w4 :=
            ⟨k + 1, s4, by go_num, by have := HN.out; omega, by rw [Sn.out, En.out]; exact P4.out, B4.out⟩
          refine ⟨?_, by simp [intOf]; omega⟩
          first | exact RR | ((repeat apply Exists.intro); refine ⟨RR, ?_⟩; and_intros <;> rfl)
        by_cases h2 : od % 4 = 2
        · have hx0 : (((od : Int) % 4) == 0) = false := by rw [beq_eq_false_iff_ne]; omega
          have hx1 : (((od : Int) % 4) == 1) = false := by rw [beq_eq_false_iff_ne]; omega
          have hx2 : (((od : Int) % 4) == 2) = true := by rw [beq_iff_eq]; omega
          by_cases hpos : 0 < on
          · have hge : 1 ≤ on := by omega
            have En := hid (show encO od on (cutT ot) = numL 1 from by unfold encO; rw [if_neg h0, if_neg h1, if_pos h2, if_pos hpos])
            go_wp2_with fail
            refine (pbool_t (wr.alloc _) _ g s _ false (PA.out _) (by have := Ln.out; rw [List.length_take] at this; omega)).mono ?_
            rintro e w4 ⟨rfl, s4, hp4, hc4, hs4⟩
            have P4 := hid hp4
            have B4 := hid (below_chg (BA.out _) (BA.out _).size hc4 P.out.pens)
            clear hp4 hc4 hs4
            go_wp2_with fail
            have RR : BkRel l w.heap.size g w (.int .i64 ((k : Int) + 1)) w4 :=
              ⟨k + 1, s4, by go_num, by have := HN.out; omega, by rw [Sn.out, En.out]; exact P4.out, B4.out⟩
            refine ⟨?_, by simp [intOf]; omega⟩
            first | exact RR | ((repeat apply Exists.intro); refine ⟨RR, ?_⟩; and_intros <;> rfl)
          · have hge : on ≤ 0 := by omega
            have En := hid (show encO od on (cutT ot) = numL 0 from by unfold encO; rw [if_neg h0, if_neg h1, if_pos h2, if_neg hpos])
            go_wp2_with fail
            refine (pbool_f (wr.alloc _) _ g s _ false (PA.out _) (by have := Ln.out; rw [List.length_take] at this; omega)).mono ?_
            rintro e w4 ⟨rfl, s4, hp4, hc4, hs4⟩
            have P4 := hid hp4
            have B4 := hid (below_chg (BA.out _) (BA.out _).size hc4 P.out.pens)
            clear hp4 hc4 hs4
            go_wp2_with fail
            have RR : BkRel l w.heap.size g w (.int .i64 ((k : Int) + 1)) w4 :=
              ⟨k + 1, s4, by go_num, by have := HN.out; omega, by rw [Sn.out, En.out]; exact P4.out, B4.out⟩
            refine ⟨?_, by simp [intOf]; omega⟩
            first | exact RR | ((repeat apply Exists.intro); refine ⟨RR, ?_⟩; and_intros <;> rfl)
        · have hx0 : (((od : Int) % 4) == 0) = false := by rw [beq_eq_false_iff_ne]; omega
          have hx1 : (((od : Int) % 4) == 1) = false := by rw [beq_eq_false_iff_ne]; omega
          have hx2 : (((od : Int) % 4) == 2) = false := by rw [beq_eq_false_iff_ne]; omega
          have en : encO od on (cutT ot) = numL (cutT ot).length ++ cutT ot := by unfold encO; rw [if_neg h0, if_neg h1, if_neg h2]
          have En0 := hid en
          clear en
          by_cases hct : ot.length ≤ 50
          · have Tn := hid (show (cutT ot).length = ot.length by unfold cutT; rw [if_pos hct])
            have hct' : (ot.length : Int) ≤ 50 := by omega
            have En := hid (show encO od on (cutT ot) = numL (cutT ot).length ++ cutT ot from En0.out)
            go_wp2_with fail
            refine (ptext_n (wr.alloc _) _ g s _ false oa ot.length oc (cutT ot) Tn.out (PA.out _) (by have := Ln.out; rw [List.length_take] at this; omega) (cut_at (TA.out _)) (by have := cutT_len ot; omega) OA.out).mono ?_
            rintro e w4 ⟨rfl, s4, hp4, hc4, hs4⟩
            have P4 := hid hp4
            have B4 := hid (below_chg (BA.out _) (BA.out _).size hc4 P.out.pens)
            clear hp4 hc4 hs4
            go_wp2_with fail
            have RR : BkRel l w.heap.size g w (.int .i64 ((k : Int) + 1)) w4 :=
              ⟨k + 1, s4, by go_num, by have := HN.out; omega, by rw [Sn.out, En.out]; exact P4.out, B4.out⟩
            refine ⟨?_, by simp [intOf]; omega⟩
            first | exact RR | ((repeat apply Exists.intro); refine ⟨RR, ?_⟩; and_intros <;> rfl)
          · have Tn := hid (show (cutT ot).length = 50 by unfold cutT; rw [if_neg hct, List.length_take]; omega)
            have hct' : 50 < (ot.length : Int) := by omega
            have En := hid (show encO od on (cutT ot) = numL (cutT ot).length ++ cutT ot from En0.out)
            go_wp2_with fail
            refine (ptext_n (wr.alloc _) _ g s _ false oa 50 oc (cutT ot) Tn.out (PA.out _) (by have := Ln.out; rw [List.length_take] at this; omega) (cut_at (TA.out _)) (by have := cutT_len ot; omega) OA.out).mono ?_
            rintro e w4 ⟨rfl, s4, hp4, hc4, hs4⟩
            have P4 := hid hp4
            have B4 := hid (below_chg (BA.out _) (BA.out _).size hc4 P.out.pens)
            clear hp4 hc4 hs4
            go_wp2_with fail
            have RR : BkRel l w.heap.size g w (.int .i64 ((k : Int) + 1)) w4 :=
              ⟨k + 1, s4, by go_num, by have := HN.out; omega, by rw [Sn.out, En.out]; exact P4.out, B4.out⟩
            refine ⟨?_, by simp [intOf]; omega⟩
            first | exact RR | ((repeat apply Exists.intro); refine ⟨RR, ?_⟩; and_intros <;> rfl)
      · have hkM : M ≤ k := by omega
        have e0 : l.take k = l := List.take_of_length_le (by rw [HN.out]; omega)
        have P3 : Kept (IsPen wr w.heap.size g s (l.flatMap enc) false) := ⟨by have := P.out; rw [e0] at this; exact this⟩
        have Ln := hid (encs_len l)
        have hkm' : ¬ ((k : Int) < (M : Int)) := by omega
        clear e0
        go_wp2_with fail
        refine (bytes_calls wr _ g s _ P3.out (by have := Ln.out; have := HN.out; have := H60.out; omega)).mono ?_
        rintro e w4 ⟨v4, rfl, ho4, hb4⟩
        obtain ⟨a4, n4, c4, rfl, hn4, hs4, _⟩ := ob_n ho4
        have B4 := hid (HB.out.trans (hb4.mono HB.out.size))
        have N4 := hid hn4
        have S4 := hid hs4
        clear ho4 hb4 hn4 hs4
        go_wp2_with fail
        refine (read_n a4 n4 c4 _ w4 N4.out S4.out (by have := Ln.out; have := HN.out; have := H60.out; omega)).mono ?_
        rintro e w5 ⟨ge, rfl, hE, hb5⟩
        have E5 := hid hE
        have B5 := hid (B4.out.trans (hb5.mono B4.out.size))
        have Gl : Kept (w4.heap.size ≤ ge ∧ ge < w5.heap.size) := ⟨by obtain ⟨_, _, hI⟩ := hE; exact ⟨hI.ge, hI.own.lt⟩⟩
        have hw4 := hid hb5.size
        clear hE hb5
        go_wp2_with fail
        go_loopw [65] (fun i wr => BkRel2 l w4.heap.size ge w5 i wr) (fun i _ => M - (intOf i).toNat)
        case atStart => exact ⟨0, rfl, Nat.zero_le _, E5.out, Below.refl _ _⟩
        case round =>
          clear P3 P HB
          obtain ⟨k, rfl, hk, hE, hB⟩ := hrel
          have E := hid hE
          have HB := hid (B5.out.trans (hB.mono B4.out.size))
          have HZ := hid hB.size
          rw [HN.out] at hk
          have B5b := hid hB
          clear hE hB
          by_cases hkm : k < M
          · have hkl : k < l.length := by rw [HN.out]; exact hkm
            obtain ⟨bo, off, rfl, hc0, hc1, hc2⟩ := op_cells Hcs.out hkl
            have Ho := hid (Hok.out _ (List.getElem_mem hkl))
            replace hc0 := cell_later HB.out hc0
            replace hc1 := cell_later HB.out hc1
            replace hc2 := cell_later HB.out hc2
            have Ls := hid (encs_len (l.drop (k + 1)))
            have Sn := hid (show (l.drop k).flatMap enc = encO l[k].d l[k].n (cutT l[k].t) ++ (l.drop (k + 1)).flatMap enc from encs_drop l hkl)
            generalize l[k] = o at Ho hc0 hc1 hc2 Sn
            obtain ⟨od, on, oa, oc, ot⟩ := o
            obtain ⟨hod, hon, hot⟩ := Ho.out
            dsimp only at hc0 hc1 hc2 hod hon hot
            have hot0 := hid hot
            have Hot := hid (hot.below HB.out)
            have hotm := hot.max'
            have hotf := hot.fit'
            clear hot Ho
            have hkm' : (k : Int) < (M : Int) := by omega
            have Hkm := hid hkm
            have EA : Kept (∀ X, EyeAt (wr.alloc X).drew w4.heap.size ge (encO od on (cutT ot) ++ (l.drop (k + 1)).flatMap enc) false) := ⟨fun X => by rw [← Sn.out]; exact (E.out.below (below_alloc wr X)).below (below_drew _)⟩
            have BA : Kept (Blk (wr.alloc (.cells #[.int .u8 (od : Int), .int .i64 on, .slice oa ot.length oc] 39)).drew wr.heap.size [.int .u8 (od : Int), .int .i64 on, .slice oa ot.length oc] 39) := ⟨(blk_alloc wr [.int .u8 (od : Int), .int .i64 on, .slice oa ot.length oc] 39).below (below_drew _)⟩
            have B5a : Kept (∀ X, Below w4.heap.size w5 (wr.alloc X).drew) := ⟨fun X => B5b.out.trans (((below_alloc wr X).trans ((below_drew _).mono (below_alloc wr X).size)).mono (Nat.le_trans hw4.out HZ.out))⟩
            by_cases h0 : od % 4 = 0
            · have hx0 : (((od : Int) % 4) == 0) = true := by rw [beq_iff_eq]; omega
              obtain ⟨hu, hu2⟩ := u64N_of on
              have en : encO od on (cutT ot) = numL (u64N on) := by unfold encO; rw [if_pos h0]
              generalize u64N on = u at hu hu2 en
              have Hu := hid hu2
              have En0 := hid en
              clear hu2 en
              have En := hid (show encO od on (cutT ot) = numL u from En0.out)
              have Cx : Kept (∀ X, Calls Try.prog 16 #[.pointer (some ⟨ge, 0, none⟩)] (wr.alloc X).drew fun e w' => e = .returned (.int .u64 (u : Int)) ∧ EyeAt w' w4.heap.size ge ((l.drop (k + 1)).flatMap enc) false ∧ Chg [ge] (wr.alloc X).drew w') := ⟨fun X => by
                have h := EA.out X
                rw [En.out] at h
                have h2 := enum_calls _ _ ge (numL u ++ (l.drop (k + 1)).flatMap enc, false) h
                rw [numS_of u Hu.out] at h2
                exact h2⟩
              go_wp2_with fail
              go_region_with (go_at_call 16; refine (Cx.out _).mono ?_; rintro e w6 ⟨rfl, he, hc⟩; have c61 := (BA.out.keep hc (by have := Gl.out; have := HZ.out; simp; omega)).get 1 rfl; have E6 := hid he; have C6 := hid hc; clear he hc)
              all_goals
                go_wp2_with fail
                have RR : BkRel2 l w4.heap.size ge w5 (.int .i64 ((k : Int) + 1)) _ :=
                  ⟨k + 1, by go_num, by have := HN.out; omega, E6.out, (B5a.out _).trans (C6.out.below (by have := HZ.out; have := hw4.out; simp; omega) (by intro q hq; simp at hq; have := Gl.out; omega))⟩
                refine ⟨?_, by simp [intOf]; omega⟩
                first | exact RR | ((repeat apply Exists.intro); refine ⟨RR, ?_⟩; and_intros <;> rfl)
            by_cases h1 : od % 4 = 1
            · have hx0 : (((od : Int) % 4) == 0) = false := by rw [beq_eq_false_iff_ne]; omega
              have hx1 : (((od : Int) % 4) == 1) = true := by rw [beq_iff_eq]; omega
              obtain ⟨hu, hu2⟩ := u32N_of on
              have en : encO od on (cutT ot) = numL (u32N on / 2) := by unfold encO; rw [if_neg h0, if_pos h1]
              generalize u32N on = u at hu hu2 en
              have hu3 : (u : Int) ≤ 4294967295 := by omega
              have Hu := hid (show u / 2 ≤ 2147483647 by omega)
              have En0 := hid en
              clear en hu2
              have En := hid (show encO od on (cutT ot) = numL (u / 2) from En0.out)
              have Cx : Kept (∀ X, Calls Try.prog 23 #[.pointer (some ⟨ge, 0, none⟩)] (wr.alloc X).drew fun e w' => e = .returned (.int .i64 ((u : Int) / 2)) ∧ EyeAt w' w4.heap.size ge ((l.drop (k + 1)).flatMap enc) false ∧ Chg [ge] (wr.alloc X).drew w') := ⟨fun X => by
                have h := EA.out X
                rw [En.out] at h
                have h2 := eint_calls _ _ ge (numL (u / 2) ++ (l.drop (k + 1)).flatMap enc, false) h
                rw [intS_of _ Hu.out, show ((u / 2 : Nat) : Int) = (u : Int) / 2 from by omega] at h2
                exact h2⟩
              go_wp2_with fail
              go_region_with (go_at_call 23; refine (Cx.out _).mono ?_; rintro e w6 ⟨rfl, he, hc⟩; have c61 := (BA.out.keep hc (by have := Gl.out; have := HZ.out; simp; omega)).get 1 rfl; have E6 := hid he; have C6 := hid hc; clear he hc)
              all_goals
                go_wp2_with fail
                have RR : BkRel2 l w4.heap.size ge w5 (.int .i64 ((k : Int) + 1)) _ :=
                  ⟨k + 1, by go_num, by have := HN.out; omega, E6.out, (B5a.out _).trans (C6.out.below (by have := HZ.out; have := hw4.out; simp; omega) (by intro q hq; simp at hq; have := Gl.out; omega))⟩
                refine ⟨?_, by simp [intOf]; omega⟩
                first | exact RR | ((repeat apply Exists.intro); refine ⟨RR, ?_⟩; and_intros <;> rfl)
            by_cases h2 : od % 4 = 2
            · have hx0 : (((od : Int) % 4) == 0) = false := by rw [beq_eq_false_iff_ne]; omega
              have hx1 : (((od : Int) % 4) == 1) = false := by rw [beq_eq_false_iff_ne]; omega
              have hx2 : (((od : Int) % 4) == 2) = true := by rw [beq_iff_eq]; omega
              by_cases hpos : 0 < on
              · have hge : 1 ≤ on := by omega
                have En := hid (show encO od on (cutT ot) = numL (if true then 1 else 0) from by unfold encO; rw [if_neg h0, if_neg h1, if_pos h2, if_pos hpos]; rfl)
                have Cx : Kept (∀ X, Calls Try.prog 25 #[.pointer (some ⟨ge, 0, none⟩)] (wr.alloc X).drew fun e w' => e = .returned (.bool true) ∧ EyeAt w' w4.heap.size ge ((l.drop (k + 1)).flatMap enc) false ∧ Chg [ge] (wr.alloc X).drew w') := ⟨fun X => by
                  have h := EA.out X
                  rw [En.out] at h
                  have h2 := ebool_calls _ _ ge (numL (if true then 1 else 0) ++ (l.drop (k + 1)).flatMap enc, false) h
                  rw [boolS_of] at h2
                  exact h2⟩
                go_wp2_with fail
                go_region_with (go_at_call 25; refine (Cx.out _).mono ?_; rintro e w6 ⟨rfl, he, hc⟩; have c61 := (BA.out.keep hc (by have := Gl.out; have := HZ.out; simp; omega)).get 1 rfl; have E6 := hid he; have C6 := hid hc; clear he hc)
                all_goals
                  go_wp2_with fail
                  have RR : BkRel2 l w4.heap.size ge w5 (.int .i64 ((k : Int) + 1)) _ :=
                    ⟨k + 1, by go_num, by have := HN.out; omega, E6.out, (B5a.out _).trans (C6.out.below (by have := HZ.out; have := hw4.out; simp; omega) (by intro q hq; simp at hq; have := Gl.out; omega))⟩
                  refine ⟨?_, by simp [intOf]; omega⟩
                  first | exact RR | ((repeat apply Exists.intro); refine ⟨RR, ?_⟩; and_intros <;> rfl)
              · have hge : on ≤ 0 := by omega
                have En := hid (show encO od on (cutT ot) = numL (if false then 1 else 0) from by unfold encO; rw [if_neg h0, if_neg h1, if_pos h2, if_neg hpos]; rfl)
                have Cx : Kept (∀ X, Calls Try.prog 25 #[.pointer (some ⟨ge, 0, none⟩)] (wr.alloc X).drew fun e w' => e = .returned (.bool false) ∧ EyeAt w' w4.heap.size ge ((l.drop (k + 1)).flatMap enc) false ∧ Chg [ge] (wr.alloc X).drew w') := ⟨fun X => by
                  have h := EA.out X
                  rw [En.out] at h
                  have h2 := ebool_calls _ _ ge (numL (if false then 1 else 0) ++ (l.drop (k + 1)).flatMap enc, false) h
                  rw [boolS_of] at h2
                  exact h2⟩
                go_wp2_with fail
                go_region_with (go_at_call 25; refine (Cx.out _).mono ?_; rintro e w6 ⟨rfl, he, hc⟩; have c61 := (BA.out.keep hc (by have := Gl.out; have := HZ.out; simp; omega)).get 1 rfl; have E6 := hid he; have C6 := hid hc; clear he hc)
                all_goals
                  go_wp2_with fail
                  have RR : BkRel2 l w4.heap.size ge w5 (.int .i64 ((k : Int) + 1)) _ :=
                    ⟨k + 1, by go_num, by have := HN.out; omega, E6.out, (B5a.out _).trans (C6.out.below (by have := HZ.out; have := hw4.out; simp; omega) (by intro q hq; simp at hq; have := Gl.out; omega))⟩
                  refine ⟨?_, by simp [intOf]; omega⟩
                  first | exact RR | ((repeat apply Exists.intro); refine ⟨RR, ?_⟩; and_intros <;> rfl)
            · have hx0 : (((od : Int) % 4) == 0) = false := by rw [beq_eq_false_iff_ne]; omega
              have hx1 : (((od : Int) % 4) == 1) = false := by rw [beq_eq_false_iff_ne]; omega
              have hx2 : (((od : Int) % 4) == 2) = false := by rw [beq_eq_false_iff_ne]; omega
              have en : encO od on (cutT ot) = numL (cutT ot).length ++ cutT ot := by unfold encO; rw [if_neg h0, if_neg h1, if_neg h2]
              have En0 := hid en
              clear en
              by_cases hct : ot.length ≤ 50
              · have Tn := hid (show (cutT ot).length = ot.length by unfold cutT; rw [if_pos hct])
                have hct' : (ot.length : Int) ≤ 50 := by omega
                have Cx : Kept (∀ X, Calls Try.prog 27 #[.pointer (some ⟨ge, 0, none⟩)] (wr.alloc X).drew fun e w' => ∃ a c, e = .returned (.slice a ot.length c) ∧ BS w' a c (cutT ot) ∧ EyeAt w' w4.heap.size ge ((l.drop (k + 1)).flatMap enc) false ∧ Chg [ge] (wr.alloc X).drew w' ∧ BS w' oa oc (cutT ot)) := ⟨fun X => by
                  have h := EA.out X
                  rw [En0.out] at h
                  have hlen : (numL (cutT ot).length ++ cutT ot ++ (l.drop (k + 1)).flatMap enc).length ≤ 1000000 := by
                    have h1 := Ls.out
                    have h2 := cutT_len ot
                    have h3 := numL_len10 (n := (cutT ot).length) (by omega)
                    have h4 := HN.out
                    have h5 := H60.out
                    rw [List.length_drop] at h1
                    rw [List.length_append, List.length_append]
                    omega
                  have h2 := etext_calls (wr.alloc X).drew w4.heap.size ge (numL (cutT ot).length ++ cutT ot ++ (l.drop (k + 1)).flatMap enc, false) h hlen (by have := hw4.out; have := HZ.out; simp; omega)
                  rw [textS_of _ (cutT_len ot), Tn.out] at h2
                  refine h2.mono ?_
                  rintro e w' ⟨a, c, he, hs, hE, hc, _⟩
                  have hb : BS (wr.alloc X).drew oa oc (cutT ot) := cut_at ((Hot.out.below (below_alloc wr X)).below (below_drew _))
                  have hk : BS w' oa oc (cutT ot) := by
                    rcases Nat.eq_zero_or_pos (cutT ot).length with h0 | h0
                    · have e0 := List.eq_nil_of_length_eq_zero h0
                      rw [e0] at hb ⊢
                      exact bs_void hb
                    · refine cs_chg hb hc (fun x hx hm => ?_)
                      obtain ⟨b', o', e', hc'⟩ := (cut_at hot0.out).at h0
                      rw [e'] at hx
                      cases hx
                      have h1 := World.block_lt_of_cell? w _ (hc' 0 h0)
                      simp at hm
                      have := Gl.out
                      have := B4.out.size
                      dsimp only at h1
                      omega
                  exact ⟨a, c, he, hs, hE, hc, hk⟩⟩
                go_wp2_with fail
                go_region_with (first | (go_at_call 27; refine (Cx.out _).mono ?_; rintro e w6 ⟨a6, c6, rfl, hs6, he, hc, hk6⟩; have c62 := (BA.out.keep hc (by have := Gl.out; have := HZ.out; simp; omega)).get 2 rfl; have E6 := hid he; have C6 := hid hc; have S6 := hid hs6; have K6 := hid hk6; clear he hc hs6 hk6) | (go_at_call 13; refine (same_n _ _ _ _ _ _ _ _ w6 S6.out K6.out Tn.out Tn.out).mono ?_; rintro e w' ⟨rfl, rfl⟩; rw [beq_self_eq_true]))
                all_goals
                  go_wp2_with fail
                  have RR : BkRel2 l w4.heap.size ge w5 (.int .i64 ((k : Int) + 1)) _ :=
                    ⟨k + 1, by go_num, by have := HN.out; omega, E6.out, (B5a.out _).trans (C6.out.below (by have := HZ.out; have := hw4.out; simp; omega) (by intro q hq; simp at hq; have := Gl.out; omega))⟩
                  refine ⟨?_, by simp [intOf]; omega⟩
                  first | exact RR | ((repeat apply Exists.intro); refine ⟨RR, ?_⟩; and_intros <;> rfl)
              · have Tn := hid (show (cutT ot).length = 50 by unfold cutT; rw [if_neg hct, List.length_take]; omega)
                have hct' : 50 < (ot.length : Int) := by omega
                have Cx : Kept (∀ X, Calls Try.prog 27 #[.pointer (some ⟨ge, 0, none⟩)] (wr.alloc X).drew fun e w' => ∃ a c, e = .returned (.slice a 50 c) ∧ BS w' a c (cutT ot) ∧ EyeAt w' w4.heap.size ge ((l.drop (k + 1)).flatMap enc) false ∧ Chg [ge] (wr.alloc X).drew w' ∧ BS w' oa oc (cutT ot)) := ⟨fun X => by
                  have h := EA.out X
                  rw [En0.out] at h
                  have hlen : (numL (cutT ot).length ++ cutT ot ++ (l.drop (k + 1)).flatMap enc).length ≤ 1000000 := by
                    have h1 := Ls.out
                    have h2 := cutT_len ot
                    have h3 := numL_len10 (n := (cutT ot).length) (by omega)
                    have h4 := HN.out
                    have h5 := H60.out
                    rw [List.length_drop] at h1
                    rw [List.length_append, List.length_append]
                    omega
                  have h2 := etext_calls (wr.alloc X).drew w4.heap.size ge (numL (cutT ot).length ++ cutT ot ++ (l.drop (k + 1)).flatMap enc, false) h hlen (by have := hw4.out; have := HZ.out; simp; omega)
                  rw [textS_of _ (cutT_len ot), Tn.out] at h2
                  refine h2.mono ?_
                  rintro e w' ⟨a, c, he, hs, hE, hc, _⟩
                  have hb : BS (wr.alloc X).drew oa oc (cutT ot) := cut_at ((Hot.out.below (below_alloc wr X)).below (below_drew _))
                  have hk : BS w' oa oc (cutT ot) := by
                    rcases Nat.eq_zero_or_pos (cutT ot).length with h0 | h0
                    · have e0 := List.eq_nil_of_length_eq_zero h0
                      rw [e0] at hb ⊢
                      exact bs_void hb
                    · refine cs_chg hb hc (fun x hx hm => ?_)
                      obtain ⟨b', o', e', hc'⟩ := (cut_at hot0.out).at h0
                      rw [e'] at hx
                      cases hx
                      have h1 := World.block_lt_of_cell? w _ (hc' 0 h0)
                      simp at hm
                      have := Gl.out
                      have := B4.out.size
                      dsimp only at h1
                      omega
                  exact ⟨a, c, he, hs, hE, hc, hk⟩⟩
                go_wp2_with fail
                go_region_with (first | (go_at_call 27; refine (Cx.out _).mono ?_; rintro e w6 ⟨a6, c6, rfl, hs6, he, hc, hk6⟩; have c62 := (BA.out.keep hc (by have := Gl.out; have := HZ.out; simp; omega)).get 2 rfl; have E6 := hid he; have C6 := hid hc; have S6 := hid hs6; have K6 := hid hk6; clear he hc hs6 hk6) | (go_at_call 13; refine (same_n _ _ _ _ _ _ _ _ w6 S6.out K6.out Tn.out Tn.out).mono ?_; rintro e w' ⟨rfl, rfl⟩; rw [beq_self_eq_true]))
                all_goals
                  go_wp2_with fail
                  have RR : BkRel2 l w4.heap.size ge w5 (.int .i64 ((k : Int) + 1)) _ :=
                    ⟨k + 1, by go_num, by have := HN.out; omega, E6.out, (B5a.out _).trans (C6.out.below (by have := HZ.out; have := hw4.out; simp; omega) (by intro q hq; simp at hq; have := Gl.out; omega))⟩
                  refine ⟨?_, by simp [intOf]; omega⟩
                  first | exact RR | ((repeat apply Exists.intro); refine ⟨RR, ?_⟩; and_intros <;> rfl)
          · have hkM : M ≤ k := by omega
            have e0 : l.drop k = [] := List.drop_of_length_le (by rw [HN.out]; omega)
            have E9 : Kept (EyeAt wr w4.heap.size ge [] false) := ⟨by have := E.out; rw [e0] at this; exact this⟩
            have hkm' : ¬ ((k : Int) < (M : Int)) := by omega
            clear e0
            go_wp2_with fail
            have en := end_calls wr _ ge _ _ E9.out
            rw [if_neg (by simp)] at en
            refine en.mono ?_
            rintro e w' ⟨rfl, rfl⟩
            clear en
            go_wp2_with fail
            go_ret
            exact ⟨rfl, HB.out⟩
end Go.Proofs.Ytaepinficmjnpaa
