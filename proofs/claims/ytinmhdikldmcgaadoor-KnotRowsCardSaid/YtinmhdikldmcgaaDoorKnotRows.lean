/- The walk of KnotRows: knots one behind the other are read one by one, and nothing is left. -/
import Derived.Test.YtinmhdikldmcgaaDoorKnotG
import Derived.Test.YtinmhdikldmcgaaDoorKnotApart
import Derived.Deep.QuietTactic
import Derived.BigQuiet
import Derived.Test.YtinmhdikldmcgaaDoorFrame
import Derived.Deep.Matrix
namespace Go.Proofs.YtinmhdikldmcgaaDoor
open Go.RowKit Go.Quad _root_.Quad

/-- a slice of slices of bytes -/
structure Rows2 (w : World) (A : Option Addr) (n cap : Nat) (a : Nat → Option Addr) (c : Nat → Nat) (R : Nat → List UInt8) : Prop where
  fit : n ≤ cap
  max : cap ≤ maxLen
  at' : 0 < n → ∃ b off, A = some ⟨b, off, none⟩ ∧ ∀ i, i < n → w.cell? ⟨b, off + i, none⟩ = some (.slice (a i) (R i).length (c i))
  each : ∀ i, i < n → BS w (a i) (c i) (R i)

theorem rows2_nil (w : World) : ∃ ra rc R, Rows2 w none 0 0 ra rc R :=
  ⟨fun _ => none, fun _ => 0, fun _ => [], Nat.le_refl _, Nat.zero_le _, fun h => absurd h (by omega), fun i hi => absurd hi (by omega)⟩

theorem rows2_of {w : World} {x : Addr} {len cap : Nat} {A : Nat → Option Addr} {L C : Nat → Nat} {Z : Nat → List Int} (hl : len ≤ cap) (hm : cap ≤ maxLen)
    (h : ∀ r, r < cap → w.cell? (x.add r) = some (.slice (A r) (L r) (C r)) ∧ L r ≤ C r ∧ C r ≤ maxLen ∧ (Z r).length = C r ∧ (∀ n ∈ Z r, (Lit.int .u8 n).wf = true) ∧ (A r = none → C r = 0) ∧
      ∀ a', A r = some a' → ∀ c, c < C r → w.cell? (a'.add c) = some (.int .u8 ((Z r).getD c 0))) : ∃ ra rc R, Rows2 w (some x) len cap ra rc R := by
  have each : ∀ r, r < len → ∃ l : List UInt8, l.length = L r ∧ BS w (A r) (C r) l := by
    intro r hr
    obtain ⟨h1, h2, h3, h4, h5, h6, h7⟩ := h r (by omega)
    cases hA : A r with
    | none =>
      have := h6 hA
      have hL : L r = 0 := by omega
      rw [this, hL]
      exact ⟨[], rfl, BS.nil w⟩
    | some a' => exact bs_of_row h2 h3 h4 (fun i hi => h7 a' hA i (by omega)) h5
  obtain ⟨R, hR⟩ := Go.Deep.choose_lt each
  refine ⟨A, C, R, hl, hm, fun h0 => ?_, fun i hi => (hR i hi).2⟩
  obtain ⟨b, off, spot⟩ := x
  have hc := (h 0 (by omega)).1
  have hspot : spot = none := by simpa [Addr.add] using World.cell?_spot hc
  subst hspot
  refine ⟨b, off, rfl, fun i hi => ?_⟩
  have hci := (h i (by omega)).1
  have hadd : (⟨b, off, none⟩ : Addr).add i = ⟨b, off + i, none⟩ := by unfold Addr.add; split <;> simp_all
  rw [hadd] at hci
  rw [hci, (hR i hi).1]

def rowsOf (R : Nat → List UInt8) (m : Nat) : List (List UInt8) := (List.range m).map fun j => (R j).take 100
def ahead (R : Nat → List UInt8) (m k : Nat) : List UInt8 := ((rowsOf R m).take k).flatMap tieL
def behind (R : Nat → List UInt8) (m k : Nat) : List UInt8 := ((rowsOf R m).drop k).flatMap tieL

theorem rowsOf_get (R : Nat → List UInt8) (m k : Nat) (h : k < m) : (rowsOf R m)[k]? = some ((R k).take 100) := by
  unfold rowsOf; simp [h]

theorem ahead_succ (R : Nat → List UInt8) (m k : Nat) (h : k < m) : ahead R m (k + 1) = ahead R m k ++ tieL ((R k).take 100) := by
  unfold ahead
  rw [List.take_add_one, rowsOf_get R m k h]
  simp

theorem behind_at (R : Nat → List UInt8) (m k : Nat) (h : k < m) : behind R m k = tieL ((R k).take 100) ++ behind R m (k + 1) := by
  unfold behind
  have hl : k < (rowsOf R m).length := by simp [rowsOf]; exact h
  rw [List.drop_eq_getElem_cons hl]
  have := rowsOf_get R m k h
  rw [List.getElem?_eq_getElem hl, Option.some.injEq] at this
  rw [List.flatMap_cons, this]

theorem ahead_all (R : Nat → List UInt8) (m : Nat) : ahead R m m = behind R m 0 := by
  unfold ahead behind
  rw [List.take_of_length_le (by simp [rowsOf])]
  rfl
theorem behind_all (R : Nat → List UInt8) (m : Nat) : behind R m m = [] := by
  unfold behind
  rw [List.drop_of_length_le (by simp [rowsOf])]
  rfl
theorem ahead_len (R : Nat → List UInt8) (m : Nat) : ∀ k, k ≤ m → (ahead R m k).length ≤ 106 * k
  | 0, _ => by simp [ahead]
  | k + 1, h => by
    have := ahead_len R m k (by omega)
    rw [ahead_succ R m k (by omega), List.length_append, tieL_length, List.length_take]
    omega
theorem behind_len (R : Nat → List UInt8) (m : Nat) (k : Nat) : (behind R m k).length ≤ 106 * m := by
  have h : (behind R m 0).length ≤ 106 * m := by rw [← ahead_all]; exact ahead_len R m m (Nat.le_refl _)
  have e : behind R m 0 = ahead R m k ++ behind R m k := by
    unfold ahead behind
    rw [List.drop_zero, ← List.flatMap_append, List.take_append_drop]
  rw [e, List.length_append] at h
  omega

def RowRel1 (R : Nat → List UInt8) (m : Nat) (w : World) (p i : Value) (wr : World) : Prop := ∃ k : Nat, k ≤ m ∧ i = .int .i64 (k : Int) ∧ OB wr w.heap.size 5 p (ahead R m k) ∧ Below w.heap.size w wr
def RowRel2 (R : Nat → List UInt8) (m : Nat) (w : World) (p i : Value) (wr : World) : Prop := ∃ k : Nat, k ≤ m ∧ i = .int .i64 (k : Int) ∧ OB wr w.heap.size 5 p (behind R m k) ∧ Below w.heap.size w wr

theorem Rows2.row {w w' : World} {A : Option Addr} {n cap : Nat} {a : Nat → Option Addr} {c : Nat → Nat} {R : Nat → List UInt8} (h : Rows2 w A n cap a c R) (hb : Below w.heap.size w w') {k : Nat} (hk : k < n) :
    ∃ N : Nat, ((R k).take 100).length = N ∧ N ≤ 100 ∧ BS w' (a k) (c k) ((R k).take 100) ∧ (R k).length ≤ c k ∧ ((c k : Nat) : Int) ≤ 9223372036854775807 ∧ (((R k).length ≤ 100 ∧ N = (R k).length) ∨ (100 < (R k).length ∧ N = 100)) := by
  have hB := (h.each k hk).below hb
  have hm := (h.each k hk).fit'
  have hc : c k ≤ maxLen := CS.max (h.each k hk)
  unfold maxLen at hc
  refine ⟨min 100 (R k).length, List.length_take, by omega, hB.take 100, hm, by omega, by omega⟩

set_option maxHeartbeats 2000000 in
theorem knotRows_walk (A : Option Addr) (n cap : Nat) (a : Nat → Option Addr) (c : Nat → Nat) (R : Nat → List UInt8) (w : World) (h : Rows2 w A n cap a c R) (hq : Laid w) :
    Calls Tryd.prog 5 #[.slice A n cap] w fun e w' => e = .returned (.bool true) ∧ Below w.heap.size w w' := by
  obtain ⟨m, hm, hmn, hcase⟩ : ∃ m, m ≤ 20 ∧ m ≤ n ∧ ((n ≤ 20 ∧ m = n) ∨ (20 < n ∧ m = 20)) := ⟨min n 20, by omega, by omega, by omega⟩
  obtain ⟨M, HM⟩ : ∃ M, Kept (M = m) := ⟨m, ⟨rfl⟩⟩
  have hM : M ≤ 20 := by have := HM.out; omega
  have Hn := hid (show M ≤ n by have := HM.out; omega)
  have hfit := h.fit
  have hmax : (cap : Int) ≤ 9223372036854775807 := by have := h.max; unfold maxLen at this; omega
  have H := hid h
  have Hq := hid hq
  clear h hq
  rcases hcase with ⟨hs, rfl⟩ | ⟨hs, rfl⟩
  all_goals
    go_enter Tryd.func5, Tryd.ntmps5
    go_wp2_with fail
    refine (awake_calls w Hq.out).mono ?_
    rintro e w1 ⟨rfl, hb1⟩
    have Hb1 := hid hb1
    clear hb1
    go_wp2_with fail
    go_loopw [3, 4, 5, 6, 7, 21] (fun p _ _ _ _ i wr => RowRel1 R M w p i wr) (fun _ _ _ _ _ i _ => M - (intOf i).toNat)
    case atStart => exact ⟨0, by omega, rfl, World.ownsRow_nil _ _ _ _, Hb1.out⟩
    case round =>
      clear Hb1
      obtain ⟨k, hk, rfl, ho, hb⟩ := hrel
      have Hb := hid hb
      have Ho := hid ho
      clear ho hb
      by_cases hlt : k < M
      · obtain ⟨b, off, hA, hc⟩ := H.out.at' (by have := Hn.out; omega)
        subst hA
        have hc1 := cell_later Hb.out (hc k (by have := Hn.out; omega))
        have hlt' := hlt
        rw [HM.out] at hlt'
        have hkn : k < _ := Nat.lt_of_lt_of_le hlt Hn.out
        obtain ⟨N, hN, hN1, hB, hN2, hN3, hN4⟩ := H.out.row Hb.out hkn
        have HN := hid hN
        have HB := hid hB
        clear hN hB hc
        rcases hN4 with ⟨hN4, rfl⟩ | ⟨hN4, rfl⟩
        all_goals
          go_wp2_with fail
          go_quiet (fail)
          have hown := OB.empty (wr.drewN nq)
          have hsrc := (BS.below HB.out (below_drewN (Below.refl _ _) nq)).below (below_alloc (wr.drewN nq) (.cells #[] 5))
          have HbA := hid (Hb.out.trans ((below_step (below_drewN (Below.refl _ wr) nq) (below_alloc (wr.drewN nq) (.cells #[] 5))).mono Hb.out.size))
          go_wp2_with (at_builtin; refine wpList_append_b (.tmp 36) (.tmp 37) _ rfl rfl _ 5 info_u8 under_bytes _ _ hown rfl hsrc (by rw [HN.out]; rfl) (by have := HN.out; simp; omega) (by simp) ?_; intro v5 w2 hown1 hg1 hb2 _)
          rw [List.nil_append] at hown1
          obtain ⟨a5, c5, rfl, hs5, _⟩ := hown1.bs
          have D : Below wr.heap.size wr (wr.drewN nq) := below_drewN (Below.refl _ wr) nq
          have Hc := hid ((D.trans ((below_alloc (wr.drewN nq) (.cells #[] 5)).mono D.size)).trans (hb2.mono D.size))
          have Hb2 := hid (Hb.out.trans (Hc.out.mono Hb.out.size))
          have Hq2 := hid (Hq.out.below Hb2.out Hq.out.1)
          have Ho2 := hid (OB.below Ho.out Hc.out)
          clear hown hsrc hg1 hb2 hown1 HbA Ho D Hc
          refine (tie_calls a5 c5 _ w2 hs5 Hq2.out (by have := HN.out; omega)).mono ?_
          rintro e w3 ⟨v6, rfl, ho6, hb3⟩
          obtain ⟨a6, c6, rfl, hs6, _⟩ := ho6.bs
          have Hb3 := hid (Hb2.out.trans (hb3.mono Hb2.out.size))
          have ho3 := OB.below Ho2.out hb3
          clear ho6 hb3 hs5 Ho2
          have HS := hid (ahead_succ R M k hlt)
          have HL := hid (ahead_len R M (k + 1) (by omega))
          rw [HS.out] at HL
          go_wp2_with (at_builtin; refine wpList_append_b (.tmp 44) (.tmp 45) _ rfl rfl _ 5 info_u8 under_bytes _ _ ho3 rfl hs6 rfl (by have h1 := HL.out; rw [List.length_append] at h1; omega) Hb3.out.size ?_; intro v8 w4 hown4 hg4 hb4 _)
          have R1 : RowRel1 R M w v8 (.int .i64 ((k : Int) + 1)) w4 := ⟨k + 1, by omega, by go_num, by rw [HS.out]; exact hown4, Hb3.out.trans hb4⟩
          refine ⟨?_, by simp [intOf]; omega⟩
          first | exact R1 | ((repeat apply Exists.intro); refine ⟨R1, ?_⟩; and_intros <;> rfl)
      · obtain rfl : k = M := by omega
        have hlt' : ¬ (k < _) := Nat.not_lt.2 (Nat.le_of_eq HM.out.symm)
        rw [ahead_all] at Ho
        go_wp2_with fail
        go_loopw [3, 8, 9, 10, 11, 50] (fun p _ _ _ _ i wr => RowRel2 R k w p i wr) (fun _ _ _ _ _ i _ => k - (intOf i).toNat)
        case atStart => exact ⟨0, by omega, rfl, Ho.out, Hb.out⟩
        case round =>
          clear Hb Ho hlt hlt' hk
          obtain ⟨j, hj, rfl, ho, hb⟩ := hrel
          have Hb := hid hb
          have Ho := hid ho
          clear ho hb
          by_cases hlt : j < k
          · obtain ⟨b, off, hA, hc⟩ := H.out.at' (by have := Hn.out; omega)
            subst hA
            have hc0 := hid (hc j (by have := Hn.out; omega))
            have hlt' := hlt
            rw [HM.out] at hlt'
            have hkn : j < _ := Nat.lt_of_lt_of_le hlt Hn.out
            generalize hZ : behind R k j = Z at Ho
            have HZ := hid (show nextL Z = ((R j).take 100, behind R k (j + 1), 0) by rw [← hZ, behind_at R k j hlt]; exact nextL_tie _ _ (by rw [List.length_take]; omega))
            have HL := hid (show Z.length ≤ 106 * k by rw [← hZ]; exact behind_len R k j)
            clear hZ
            obtain ⟨N, hN, hN1, hB, hN2, hN3, hN4⟩ := H.out.row Hb.out hkn
            have HN := hid hN
            have HB := hid hB
            clear hN hB hc
            obtain ⟨a3, c3, rfl, hs3, _⟩ := Ho.out.bs
            have Hs3 := hid hs3
            have Hq1 := hid (Hq.out.below Hb.out Hq.out.1)
            clear Ho hs3
            rcases hN4 with ⟨hN4, rfl⟩ | ⟨hN4, rfl⟩
            all_goals
              go_wp2_with fail
              have nx := next_calls a3 c3 _ wr Hs3.out Hq1.out (by have := HL.out; omega)
              rw [HZ.out] at nx
              refine nx.mono ?_
              rintro e w3 ⟨v3, v4, rfl, ho3, ho4, hb3⟩
              clear nx
              obtain ⟨a9, c9, e9, hs9, _⟩ := ho3.bs
              rw [HN.out] at e9
              subst e9
              have Hb3 := hid (Hb.out.trans (hb3.mono Hb.out.size))
              have Ho4 := hid (ho4.base Hb.out.size)
              have HB3 := HB.out.below hb3
              have hc1 := cell_later Hb3.out hc0.out
              have sm : ∀ nq, Calls Tryd.prog 19 #[.slice a9 ((R j).take 100).length c9, .slice (a j) ((R j).take 100).length (c j)] (w3.drewN nq) fun e w' => e = .returned (.bool true) ∧ w' = w3.drewN nq := fun nq =>
                (same_calls a9 (a j) c9 (c j) _ _ (w3.drewN nq) (hs9.below (below_drewN (Below.refl _ _) nq)) (HB3.below (below_drewN (Below.refl _ _) nq))).mono fun e w' ⟨h1, h2⟩ => ⟨by rw [h1, beq_self_eq_true], h2.symm⟩
              rw [HN.out] at sm
              have Hsm := hid sm
              clear sm ho3 ho4 hs9 hb3 HB3
              go_wp2_with fail
              have q1 : ((R j).length : Int) ≤ (c j : Int) := by omega
              first
                | have q2 : ¬ ((100 : Int) < ((R j).length : Int)) := by omega
                | (have q2 : (100 : Int) < ((R j).length : Int) := by omega
                   have q3 : (100 : Int) ≤ (c j : Int) := by omega)
              go_quiet (exact Calls.quiet_of_same (Hsm.out _))
              go_wp2_with fail
              have R1 : RowRel2 R k w v4 (.int .i64 ((j : Int) + 1)) (w3.drewN nq) := ⟨j + 1, by omega, by go_num, OB.below Ho4.out (below_drewN (Below.refl _ _) nq), Hb3.out.trans ((below_drewN (Below.refl _ w3) nq).mono Hb3.out.size)⟩
              refine ⟨?_, by simp [intOf]; omega⟩
              first | exact R1 | ((repeat apply Exists.intro); refine ⟨R1, ?_⟩; and_intros <;> rfl)
          · obtain rfl : j = k := by omega
            have hlt' : ¬ (j < _) := Nat.not_lt.2 (Nat.le_of_eq HM.out.symm)
            rw [behind_all] at Ho
            obtain ⟨a3, c3, rfl, hs3, _⟩ := Ho.out.bs
            clear hs3
            go_wp2_with fail
            go_ret
            exact ⟨rfl, Hb.out⟩
end Go.Proofs.YtinmhdikldmcgaaDoor
