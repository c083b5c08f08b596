/- The walk of InkWrites: whatever is written stands there byte by byte. -/
import Derived.Test.YtaepinficmjnpaaInkW
import Derived.Deep.CutRange
import Derived.Deep.CutBlock
import Derived.Deep.DeepMust
namespace Go.Quad
open Go.RowKit
theorem Blk.belowAt {B : Nat} {w w' : World} {g : Nat} {cs : List Value} {t : TypeId} (h : Blk w g cs t) (hb : Below B w w') (hg : g < B) : Blk w' g cs t := by
  unfold Blk; rw [hb.block g hg]; exact h
end Go.Quad
namespace Go.Quad
open Go.RowKit
theorem Blk.get {w : World} {g : Nat} {cs : List Value} {t : TypeId} (h : Blk w g cs t) (i : Nat) {v : Value} (hv : cs[i]? = some v) : w.cell? ⟨g, i, none⟩ = some v := by rw [h.cell, hv]
end Go.Quad
namespace Go.Proofs.Ytaepinficmjnpaa
open Go.RowKit Go.Quad _root_.Quad.Ink

/-- a pen, and bytes that the call owns, apart -/
structure PW (w : World) (B g : Nat) (s : Value) (d : List UInt8) (bad : Bool) (v : Value) (want : List UInt8) : Prop where
  pen : IsPen w B g s d bad
  row : OB w B 5 v want
  dis : ∀ k, v.ownBlock = some k → k ∉ penS g s

theorem PW.below {w w' : World} {B g : Nat} {s : Value} {d : List UInt8} {bad : Bool} {v : Value} {want : List UInt8} (h : PW w B g s d bad v want) (hb : Below w.heap.size w w') : PW w' B g s d bad v want :=
  ⟨h.pen.below hb, h.row.below hb, h.dis⟩

/-- the pen has written -/
theorem PW.wrote {w w' : World} {B g : Nat} {s s' : Value} {d d' : List UInt8} {bad bad' : Bool} {v : Value} {want : List UInt8} (h : PW w B g s d bad v want)
    (hp : IsPen w' B g s' d' bad') (hc : Chg (penS g s) w w') (hs : ∀ k, s'.ownBlock = some k → s.ownBlock = some k ∨ w.heap.size ≤ k) : PW w' B g s' d' bad' v want := by
  refine ⟨hp, h.row.chg hc h.dis, fun k hk hm => ?_⟩
  have h1 := h.dis k hk
  have h2 := h.row.ownLt hk
  unfold penS at hm h1
  rcases List.mem_cons.1 hm with e | e
  · exact h1 (by simp [e])
  · rw [Option.mem_toList] at e
    rcases hs k e with h3 | h3
    · exact h1 (by simp [h3])
    · omega

/-- bytes more are wanted -/
theorem PW.more {w w' : World} {B g : Nat} {s : Value} {d : List UInt8} {bad : Bool} {v v' : Value} {want want' : List UInt8} (h : PW w B g s d bad v want)
    (ho : OB w' B 5 v' want') (hg : w.grownBy w' v.ownBlock) (hw : v'.ownBlock = v.ownBlock ∨ v'.ownBlock = some w.heap.size) : PW w' B g s d bad v' want' := by
  have hS : ∀ k ∈ v.ownBlock.toList, k ∉ penS g s := fun k hk => h.dis k (by simpa using hk)
  refine ⟨h.pen.chg (chg_grown hg) (fun hm => hS g hm (by simp [penS])) (fun k hk hm => hS k hm (by simp [penS, hk])), ho, fun k hk => ?_⟩
  rcases hw with e | e
  · rw [e] at hk; exact h.dis k hk
  · rw [e] at hk
    cases hk
    intro hm
    unfold penS at hm
    rcases List.mem_cons.1 hm with e | e
    · have := h.pen.own.lt; omega
    · rw [Option.mem_toList] at e
      have := h.pen.row.ownLt e
      omega

theorem PW.none {w : World} {B g : Nat} {s : Value} {d : List UInt8} {bad : Bool} {v : Value} {want : List UInt8} (h : PW w B g s d bad v want) : PW w B g s d bad (.slice none 0 0) [] :=
  ⟨h.pen, World.ownsRow_nil _ _ _ _, by simp [Value.ownBlock]⟩

/-- what the loop keeps -/
def WrRel (n : Nat) (B g : Nat) (w0 : World) (v bad i : Value) (wr : World) : Prop :=
  ∃ (k : Nat) (s : Value) (d : List UInt8) (b : Bool), i = .int .i64 (k : Int) ∧ k ≤ n ∧ bad = .bool b ∧ PW wr B g s d b v (want1 b d) ∧ d.length ≤ k * 200 ∧ Below B w0 wr

/-- behind the switch -/
def MidRel (k : Nat) (B g : Nat) (w0 : World) (v bad i : Value) (wr : World) : Prop :=
  ∃ (s : Value) (d : List UInt8) (b : Bool) (want : List UInt8), i = .int .i64 (k : Int) ∧ bad = .bool b ∧ PW wr B g s d b v want ∧ (b = false → want = d) ∧ d.length ≤ (k + 1) * 200 ∧ Below B w0 wr

theorem ob_n {w : World} {base : Nat} {e : TypeId} {v : Value} {l : List UInt8} (h : OB w base e v l) :
    ∃ a n cap, v = .slice a n cap ∧ l.length = n ∧ BS w a cap l ∧ (∀ x, a = some x → x.off = 0 ∧ x.spot = none ∧ base ≤ x.block ∧ x.block < w.heap.size) := by
  obtain ⟨a, cap, h1, h2, h3⟩ := h.bs
  exact ⟨a, _, cap, h1, rfl, h2, h3⟩

theorem same_n (a a' : Option Addr) (n n' cap cap' : Nat) (l l' : List UInt8) (w : World) (h : BS w a cap l) (h' : BS w a' cap' l') (hn : l.length = n) (hn' : l'.length = n') :
    Calls Try.prog 13 #[.slice a n cap, .slice a' n' cap'] w fun e w' => e = .returned (.bool (l == l')) ∧ w = w' := by
  subst hn hn'; exact same_calls a a' cap cap' l l' w h h'

theorem ptext_n (w : World) (B g : Nat) (s : Value) (l : List UInt8) (bad : Bool) (a : Option Addr) (n cap : Nat) (t : List UInt8) (htn : t.length = n) (h : IsPen w B g s l bad) (hl : l.length ≤ 900000) (ht : BS w a cap t) (hn : t.length ≤ 50000) (ho : OffPen g s a t) :
    Calls Try.prog 20 #[.pointer (some ⟨g, 0, none⟩), .slice a n cap] w (PenTo w B g s (addN bad l (numL t.length ++ t)) bad) := by
  subst htn; exact ptext_any w B g s l bad a cap t h hl ht hn ho

theorem reftext_n (w : World) (a : Option Addr) (n cap : Nat) (t : List UInt8) (htn : t.length = n) (ht : BS w a cap t) (hn : t.length ≤ 50000) :
    Calls Try.prog 21 #[.slice a n cap] w (RetB w.heap.size w (numL t.length ++ t)) := by
  subst htn; exact reftext_calls w a cap t ht hn

theorem u64_of (n : Int) : ∃ u : Nat, IntKind.u64.wrap n = (u : Int) ∧ u < 18446744073709551616 := by
  rw [IntKind.wrap_u64]
  exact ⟨(n % 18446744073709551616).toNat, by omega, by omega⟩

theorem PW.chg {S : List Nat} {w w' : World} {B g : Nat} {s : Value} {d : List UInt8} {bad : Bool} {v : Value} {want : List UInt8} (h : PW w B g s d bad v want) (hc : Chg S w w') (hS : ∀ k ∈ S, k ∉ penS g s ∧ v.ownBlock ≠ some k) : PW w' B g s d bad v want :=
  ⟨h.pen.chg hc (fun hm => (hS g hm).1 (by simp [penS])) (fun k hk hm => (hS k hm).1 (by simp [penS, hk])), h.row.chg hc (fun k hk hm => (hS k hm).2 hk), h.dis⟩

/-- while the text is turned -/
def TRel (n base : Nat) (tv : Value) (B g : Nat) (s : Value) (d : List UInt8) (bad : Bool) (v : Value) (want : List UInt8) (w0 : World) (i : Value) (wr : World) : Prop :=
  ∃ (j : Nat) (ts : List UInt8), i = .int .i64 (j : Int) ∧ j ≤ n ∧ ts.length = n ∧ OB wr base 5 tv ts ∧ PW wr B g s d bad v want ∧ Below B w0 wr

theorem xor1 (x : UInt8) : bits .xor .u8 (x.toNat : Int) 1 = ((x ^^^ 1).toNat : Int) := by
  have h : ∀ x : Fin 256, bits .xor .u8 ((x.val : Nat) : Int) 1 = (((UInt8.ofNat x.val) ^^^ 1).toNat : Int) := by decide +kernel
  have := h ⟨x.toNat, x.toNat_lt⟩
  dsimp only at this
  rw [this]
  simp

theorem ob_at {w : World} {base tb n ct : Nat} {ts : List UInt8} (h : OB w base 5 (.slice (some ⟨tb, 0, none⟩) n ct) ts) (hn : ts.length = n) (j : Nat) (hj : j < n) :
    ∃ x : UInt8, w.cell? ⟨tb, j, none⟩ = some (.int .u8 (x.toNat : Int)) ∧ w.frozen? ⟨tb, j, none⟩ = false ∧ OB (w.setCell ⟨tb, j, none⟩ (.int .u8 ((x ^^^ 1).toNat : Int))) base 5 (.slice (some ⟨tb, 0, none⟩) n ct) (ts.set j (x ^^^ 1)) := by
  subst hn
  have hx : (ts.map u8v)[j]? = some (u8v ts[j]) := by simp [hj]
  obtain ⟨h1, h2⟩ := row_at h j hj hx
  refine ⟨ts[j], h1, h2, ?_⟩
  have h3 := (row_store h j (u8v (ts[j] ^^^ 1))).1
  unfold OB
  rw [List.length_set, List.map_set]
  exact h3

theorem pbool_t (w : World) (B g : Nat) (s : Value) (l : List UInt8) (bad : Bool) (h : IsPen w B g s l bad) (hl : l.length ≤ 1000000) :
    Calls Try.prog 19 #[.pointer (some ⟨g, 0, none⟩), .bool true] w (PenTo w B g s (addN bad l (numL 1)) bad) := pbool_any true w B g s l bad h hl
theorem pbool_f (w : World) (B g : Nat) (s : Value) (l : List UInt8) (bad : Bool) (h : IsPen w B g s l bad) (hl : l.length ≤ 1000000) :
    Calls Try.prog 19 #[.pointer (some ⟨g, 0, none⟩), .bool false] w (PenTo w B g s (addN bad l (numL 0)) bad) := pbool_any false w B g s l bad h hl

theorem _root_.Go.Quad.OB.bsN {w : World} {base : Nat} {e : TypeId} {a : Option Addr} {n c : Nat} {l : List UInt8} (h : OB w base e (.slice a n c) l) : BS w a c l := by
  obtain ⟨a', c', e, h', _⟩ := h.bs
  cases e
  exact h'

theorem addN_len (b : Bool) (d x : List UInt8) : (addN b d x).length ≤ d.length + x.length := by
  unfold addN; split <;> simp
theorem want1_len (b : Bool) (d : List UInt8) : (want1 b d).length ≤ d.length := by
  unfold want1; split <;> simp

set_option maxRecDepth 20000 in
set_option maxHeartbeats 4000000 in
theorem inkWrites_walk (v : Value) (w : World) (h : RV Try.prog w 37 v) :
    Calls Try.prog 5 #[v] w fun e w' => e = .returned (.bool true) ∧ Below w.heap.size w w' := by
  obtain ⟨a, cap, l, rfl, hok, hcs, hlc⟩ := ops_open h
  have hmx := CS.max hcs
  have hl : (l.length : Int) ≤ 9223372036854775807 := by unfold maxLen at hmx; omega
  have Hok := hid hok
  have Hcs := hid hcs
  clear h hok hcs hmx hlc
  go_enter Try.func5, Try.ntmps5
  go_wp2_with fail
  refine (awake_calls w).mono ?_
  rintro e w1 ⟨rfl, hb1⟩
  have H1 := hid hb1
  clear hb1
  go_wp2_with fail
  refine (new_calls w1).mono ?_
  rintro e w2 ⟨g, rfl, hp, hg, hb2⟩
  have P2 := hid (hp.base H1.out.size)
  have H2 := hid (H1.out.trans (hb2.mono H1.out.size))
  clear hp hg hb2
  go_wp2_with fail
  go_loopw [4, 5, 15] (fun v bad i wr => WrRel l.length w.heap.size g w v bad i wr) (fun _ _ i _ => l.length - (intOf i).toNat)
  case atStart => exact ⟨0, _, [], false, rfl, Nat.zero_le _, rfl, ⟨P2.out, World.ownsRow_nil _ _ _ _, by simp [Value.ownBlock]⟩, by simp, H2.out⟩
  case round =>
    obtain ⟨k, s, d, b, rfl, hk, rfl, hP, hd, hB⟩ := hrel
    have P := hid hP
    have HB := hid hB
    clear hP hB
    by_cases hgo : k < l.length ∧ k < 60
    · obtain ⟨hkm, h60⟩ := hgo
      have Ho := hid (Hok.out _ (List.getElem_mem hkm))
      have hcell : ∃ bo off, a = some ⟨bo, off, none⟩ ∧ w.cell? ⟨bo, off + k * 3, none⟩ = some (.int .u8 (l[k].d : Int)) ∧ w.cell? ⟨bo, off + (k * 3 + 1), none⟩ = some (.int .i64 l[k].n) ∧ w.cell? ⟨bo, off + (k * 3 + 2), none⟩ = some (.slice l[k].a l[k].t.length l[k].cap) := by
        obtain ⟨bo, off, e, hc⟩ := Hcs.out.at (by rw [flat_length opV 3 opV_length]; omega)
        have hx : l[k]? = some l[k] := List.getElem?_eq_getElem hkm
        exact ⟨bo, off, e, hc _ _ (flat_get opV 3 opV_length l k 0 _ hx (by omega)), hc _ _ (flat_get opV 3 opV_length l k 1 _ hx (by omega)), hc _ _ (flat_get opV 3 opV_length l k 2 _ hx (by omega))⟩
      obtain ⟨bo, off, rfl, hc0, hc1, hc2⟩ := hcell
      rw [← Nat.add_assoc] at hc1 hc2
      replace hc0 := cell_later HB.out hc0
      replace hc1 := cell_later HB.out hc1
      replace hc2 := cell_later HB.out hc2
      generalize l[k] = o at Ho hc0 hc1 hc2
      obtain ⟨od, on, oa, oc, ot⟩ := o
      obtain ⟨hod, hon, hot⟩ := Ho.out
      dsimp only at hc0 hc1 hc2 hod hon hot
      have Hot := hid (hot.below HB.out)
      have hotm := hot.max'
      have hotf := hot.fit'
      clear hot Ho
      have h60' : ¬ ((60 : Int) ≤ (k : Int)) := by omega
      have hkm' : (k : Int) < (l.length : Int) := by omega
      obtain ⟨T, N, hTl, hN, hT, hcase⟩ := cut600 Hot.out 100
      have HT := hid hT
      have HTl := hid hTl
      have HN := hid hN
      have hown : Kept (∀ X, OB ((wr.alloc X).alloc (.cells #[] 5)) (wr.heap.size + 1) 5 (.slice (some ⟨wr.heap.size + 1, 0, none⟩) 0 0) []) := ⟨fun X => by
        have h1 := OB.empty (wr.alloc X)
        have e : (wr.alloc X).heap.size = wr.heap.size + 1 := by simp
        rw [e] at h1
        exact h1⟩
      have hsrc : Kept (∀ X, BS ((wr.alloc X).alloc (.cells #[] 5)) oa oc T) := ⟨fun X => (HT.out.below (below_alloc wr X)).below (below_alloc _ _)⟩
      have hszA : Kept (∀ X, wr.heap.size + 1 ≤ ((wr.alloc X).alloc (.cells #[] 5)).heap.size) := ⟨fun X => by simp⟩
      have hBx : Kept (∀ X, Below wr.heap.size wr ((wr.alloc X).alloc (.cells #[] 5))) := ⟨fun X => below_step (below_alloc wr X) (below_alloc _ _)⟩
      have hBo : Kept (Blk ((wr.alloc (.cells #[.int .u8 (od : Int), .int .i64 on, .slice oa ot.length oc] 39)).alloc (.cells #[] 5)) wr.heap.size [.int .u8 (od : Int), .int .i64 on, .slice oa ot.length oc] 39) := ⟨(blk_alloc wr [.int .u8 (od : Int), .int .i64 on, .slice oa ot.length oc] 39).below (below_alloc _ _)⟩
      have No : Kept (∀ q, wr.heap.size ≤ q → q ∉ penS g s) := ⟨fun q hq hm => by
        unfold penS at hm
        rcases List.mem_cons.1 hm with e | e
        · have := P.out.pen.own.lt; omega
        · rw [Option.mem_toList] at e
          have := P.out.pen.row.ownLt e
          omega⟩
      have Nv : Kept (∀ q, u4.ownBlock = some q → q < wr.heap.size) := ⟨fun q hq => P.out.row.ownLt hq⟩
      clear hT hTl hN
      rcases hcase with ⟨hs, rfl⟩ | ⟨hs, rfl⟩
      all_goals
        go_upto_block 2 with (at_builtin; go_must (refine wpList_append_b (.tmp 22) (.tmp 29) _ rfl rfl _ 5 info_u8 under_bytes _ _ (hown.out _) rfl (hsrc.out _) (by rw [HTl.out]; rfl) (by have := HTl.out; have := HN.out; simp; omega) (hszA.out _) ?_; intro v3 w3 ho3 hg3 hb3 _; have Bo3 := hBo.out.belowAt hb3 (Nat.lt_succ_self _); have c30 := Bo3.get 0 rfl; have c31 := Bo3.get 1 rfl; have c32 := Bo3.get 2 rfl; replace Bo3 := hid Bo3; rw [List.nil_append] at ho3))
        have B3 := hid (HB.out.trans ((hBx.out _).mono HB.out.size |>.trans (hb3.mono (Nat.le_succ_of_le HB.out.size))))
        have P3 := hid (P.out.below ((hBx.out _).trans (hb3.mono (Nat.le_succ _))))
        obtain ⟨at3, nt3, ct3, rfl, hnt3, hst3, hat3⟩ := ob_n ho3
        have T3 := hid ho3
        have S3 := hid hst3
        have Nt3 := hid hnt3
        have At3 := hid hat3
        clear ho3 hg3 hb3 hnt3 hst3 hat3 c32
        go_cut [4, 5, 15] from 15 to 108 (fun v bad i w' => MidRel k w.heap.size g w v bad i w')
        case first =>
          by_cases h0 : od % 4 = 0
          · have hx0 : (((od : Int) % 4) == 0) = true := by rw [beq_iff_eq]; omega
            obtain ⟨u, hu, hu2⟩ := u64_of on
            have Hu := hid hu2
            clear hu2
            go_wp2_with fail
            refine (pnum_any u Hu.out w3 _ g s d b P3.out.pen (by omega)).mono ?_
            rintro e w4 ⟨rfl, s4, hp4, hc4, hs4⟩
            have P4 := hid (P3.out.wrote hp4 hc4 hs4)
            have c40 := (Bo3.out.keep hc4 (No.out _ (Nat.le_refl _))).get 0 rfl
            have c41 := (Bo3.out.keep hc4 (No.out _ (Nat.le_refl _))).get 1 rfl
            have B4 := hid (below_chg B3.out B3.out.size hc4 P3.out.pen.pens)
            clear hp4 hc4 hs4
            go_wp2_with fail
            refine (refnum_calls u Hu.out w4).mono ?_
            rintro e w5 ⟨v5, rfl, ho5, hb5⟩
            obtain ⟨a5, n5, c5, rfl, hn5, hs5, _⟩ := ob_n ho5
            have P5 := hid (P4.out.below hb5)
            have B5 := hid (B4.out.trans (hb5.mono B4.out.size))
            have S5 := hid hs5
            have N5 := hid hn5
            have hrow := P5.out.row
            have Hx := hid (show (numL u : List UInt8).length ≤ 150 from by have := numL_len10 Hu.out; omega)
            clear ho5 hb5 hs5 hn5
            go_wp2_with (at_builtin; go_must (refine wpList_append_at (.tmp 60) (.tmp 64) _ rfl rfl _ 5 info_u8 under_bytes _ _ hrow rfl S5.out (by rw [N5.out]; rfl) (by have := want1_len b d; have := Hx.out; omega) B5.out.size ?_; intro v6 w6 ho6 hg6 hw6; have P6 := hid (P5.out.more ho6 hg6 hw6); have B6 := hid (B5.out.trans (grownBy_below hg6 B5.out.size (P5.out.row.ownBlock))); clear ho6 hg6 hw6 hrow))
            go_meet
            case rel => exact ⟨_, _, b, _, rfl, rfl, P6.out, (fun hb => by subst hb; rfl), by have := addN_len b d (numL u); have := Hx.out; omega, B6.out⟩
          by_cases h1 : od % 4 = 1
          · have hx0 : (((od : Int) % 4) == 0) = false := by rw [beq_eq_false_iff_ne]; omega
            have hx1 : (((od : Int) % 4) == 1) = true := by rw [beq_iff_eq]; omega
            by_cases hneg : on < 0
            · have hnn : ¬ (0 ≤ on) := by omega
              have Lt := hid (show intN on b d = d from if_pos hneg)
              have Db := hid (show (b || decide (on < 0)) = true by simp [hneg])
              go_wp2_with fail
              refine (pint_any on hon w3 _ g s d b P3.out.pen (by omega)).mono ?_
              rintro e w4 ⟨rfl, s4, hp4, hc4, hs4⟩
              have P4 := hid (P3.out.wrote hp4 hc4 hs4)
              have c40 := (Bo3.out.keep hc4 (No.out _ (Nat.le_refl _))).get 0 rfl
              have c41 := (Bo3.out.keep hc4 (No.out _ (Nat.le_refl _))).get 1 rfl
              have B4 := hid (below_chg B3.out B3.out.size hc4 P3.out.pen.pens)
              rw [Lt.out, Db.out] at P4
              clear hp4 hc4 hs4
              cases b
              all_goals
                go_wp2_with fail
                go_meet
                case rel => exact ⟨_, _, true, _, rfl, rfl, P4.out, (fun hb => by cases hb), by omega, B4.out⟩
            · have hnn : (0 : Int) ≤ on := by omega
              have Hu := hid (show on.toNat < 18446744073709551616 by omega)
              have Rn : Kept (∀ w, Calls Try.prog 14 #[.int .u64 on] w (RetB w.heap.size w (numL on.toNat))) := ⟨fun w => by
                have h := refnum_calls on.toNat Hu.out w
                rw [Int.toNat_of_nonneg hnn] at h
                exact h⟩
              have Lt := hid (show intN on b d = addN b d (numL on.toNat) from if_neg hneg)
              have Db := hid (show (b || decide (on < 0)) = b by simp [hneg])
              have hdn : decide (on < 0) = false := by simpa using hneg
              have Dn := hid hdn
              clear hdn
              have Wl := hid (want1_len b d)
              have Al := hid (addN_len b d (numL on.toNat))
              go_wp2_with fail
              refine (pint_any on hon w3 _ g s d b P3.out.pen (by omega)).mono ?_
              rintro e w4 ⟨rfl, s4, hp4, hc4, hs4⟩
              have P4 := hid (P3.out.wrote hp4 hc4 hs4)
              have c40 := (Bo3.out.keep hc4 (No.out _ (Nat.le_refl _))).get 0 rfl
              have c41 := (Bo3.out.keep hc4 (No.out _ (Nat.le_refl _))).get 1 rfl
              have B4 := hid (below_chg B3.out B3.out.size hc4 P3.out.pen.pens)
              rw [Lt.out, Db.out] at P4
              clear hp4 hc4 hs4
              cases b
              all_goals
                go_wp2_with fail
                refine (Rn.out w4).mono ?_
                rintro e w5 ⟨v5, rfl, ho5, hb5⟩
                obtain ⟨a5, n5, c5, rfl, hn5, hs5, _⟩ := ob_n ho5
                have P5 := hid (P4.out.below hb5)
                have B5 := hid (B4.out.trans (hb5.mono B4.out.size))
                have S5 := hid hs5
                have N5 := hid hn5
                have hrow := P5.out.row
                have Hx := hid (show (numL on.toNat : List UInt8).length ≤ 150 from by have := numL_len10 Hu.out; omega)
                clear ho5 hb5 hs5 hn5
                go_wp2_with (at_builtin; go_must (refine wpList_append_at (.tmp 81) (.tmp 85) _ rfl rfl _ 5 info_u8 under_bytes _ _ hrow rfl S5.out (by rw [N5.out]; rfl) (by have := Wl.out; have := Hx.out; omega) B5.out.size ?_; intro v6 w6 ho6 hg6 hw6; have P6 := hid (P5.out.more ho6 hg6 hw6); have B6 := hid (B5.out.trans (grownBy_below hg6 B5.out.size (P5.out.row.ownBlock))); clear ho6 hg6 hw6 hrow))
                go_meet
                case rel =>
                  (try rw [Dn.out])
                  exact ⟨_, _, _, _, rfl, rfl, P6.out, (fun hb => by first | rfl | cases hb), by have := Al.out; have := Hx.out; omega, B6.out⟩
          by_cases h2 : od % 4 = 2
          · have hx0 : (((od : Int) % 4) == 0) = false := by rw [beq_eq_false_iff_ne]; omega
            have hx1 : (((od : Int) % 4) == 1) = false := by rw [beq_eq_false_iff_ne]; omega
            have hx2 : (((od : Int) % 4) == 2) = true := by rw [beq_iff_eq]; omega
            by_cases hpos : 0 < on
            · have hge : 1 ≤ on := by omega
              go_wp2_with fail
              refine (pbool_t w3 _ g s d b P3.out.pen (by omega)).mono ?_
              rintro e w4 ⟨rfl, s4, hp4, hc4, hs4⟩
              have P4 := hid (P3.out.wrote hp4 hc4 hs4)
              have c40 := (Bo3.out.keep hc4 (No.out _ (Nat.le_refl _))).get 0 rfl
              have c41 := (Bo3.out.keep hc4 (No.out _ (Nat.le_refl _))).get 1 rfl
              have B4 := hid (below_chg B3.out B3.out.size hc4 P3.out.pen.pens)
              clear hp4 hc4 hs4
              go_wp2_with fail
              refine (refnum_calls 1 (by omega) w4).mono ?_
              rintro e w5 ⟨v5, rfl, ho5, hb5⟩
              obtain ⟨a5, n5, c5, rfl, hn5, hs5, _⟩ := ob_n ho5
              have P5 := hid (P4.out.below hb5)
              have B5 := hid (B4.out.trans (hb5.mono B4.out.size))
              have S5 := hid hs5
              have N5 := hid hn5
              have hrow := P5.out.row
              have Hx := hid (show (numL 1 : List UInt8).length ≤ 150 from by have := numL_len10 (n := 1) (by omega); omega)
              clear ho5 hb5 hs5 hn5
              go_wp2_with (at_builtin; go_must (refine wpList_append_at (.tmp 94) (.tmp 100) _ rfl rfl _ 5 info_u8 under_bytes _ _ hrow rfl S5.out (by rw [N5.out]; rfl) (by have := want1_len b d; have := Hx.out; omega) B5.out.size ?_; intro v6 w6 ho6 hg6 hw6; have P6 := hid (P5.out.more ho6 hg6 hw6); have B6 := hid (B5.out.trans (grownBy_below hg6 B5.out.size (P5.out.row.ownBlock))); clear ho6 hg6 hw6 hrow))
              go_meet
              case rel => exact ⟨_, _, b, _, rfl, rfl, P6.out, (fun hb => by subst hb; rfl), by have := addN_len b d (numL 1); have := Hx.out; omega, B6.out⟩
            · have hle : on ≤ 0 := by omega
              go_wp2_with fail
              refine (pbool_f w3 _ g s d b P3.out.pen (by omega)).mono ?_
              rintro e w4 ⟨rfl, s4, hp4, hc4, hs4⟩
              have P4 := hid (P3.out.wrote hp4 hc4 hs4)
              have c40 := (Bo3.out.keep hc4 (No.out _ (Nat.le_refl _))).get 0 rfl
              have c41 := (Bo3.out.keep hc4 (No.out _ (Nat.le_refl _))).get 1 rfl
              have B4 := hid (below_chg B3.out B3.out.size hc4 P3.out.pen.pens)
              clear hp4 hc4 hs4
              go_wp2_with fail
              refine (refnum_calls 0 (by omega) w4).mono ?_
              rintro e w5 ⟨v5, rfl, ho5, hb5⟩
              obtain ⟨a5, n5, c5, rfl, hn5, hs5, _⟩ := ob_n ho5
              have P5 := hid (P4.out.below hb5)
              have B5 := hid (B4.out.trans (hb5.mono B4.out.size))
              have S5 := hid hs5
              have N5 := hid hn5
              have hrow := P5.out.row
              have Hx := hid (show (numL 0 : List UInt8).length ≤ 150 from by have := numL_len10 (n := 0) (by omega); omega)
              clear ho5 hb5 hs5 hn5
              go_wp2_with (at_builtin; go_must (refine wpList_append_at (.tmp 94) (.tmp 100) _ rfl rfl _ 5 info_u8 under_bytes _ _ hrow rfl S5.out (by rw [N5.out]; rfl) (by have := want1_len b d; have := Hx.out; omega) B5.out.size ?_; intro v6 w6 ho6 hg6 hw6; have P6 := hid (P5.out.more ho6 hg6 hw6); have B6 := hid (B5.out.trans (grownBy_below hg6 B5.out.size (P5.out.row.ownBlock))); clear ho6 hg6 hw6 hrow))
              go_meet
              case rel => exact ⟨_, _, b, _, rfl, rfl, P6.out, (fun hb => by subst hb; rfl), by have := addN_len b d (numL 0); have := Hx.out; omega, B6.out⟩
          · have hx0 : (((od : Int) % 4) == 0) = false := by rw [beq_eq_false_iff_ne]; omega
            have hx1 : (((od : Int) % 4) == 1) = false := by rw [beq_eq_false_iff_ne]; omega
            have hx2 : (((od : Int) % 4) == 2) = false := by rw [beq_eq_false_iff_ne]; omega
            have Tl := hid (show T.length ≤ 100 by have := HTl.out; have := HN.out; omega)
            have hm3 := T3.out.bs
            have hnt : (nt3 : Int) ≤ 100 := by have := Tl.out; have := Nt3.out; omega
            go_wp2_with fail
            refine (ptext_n w3 _ g s d b at3 nt3 ct3 T Nt3.out P3.out.pen (by omega) S3.out (by have := Tl.out; omega) (.inr fun x hx hm => No.out _ (by have := (At3.out x hx).2.2.1; omega) hm)).mono ?_
            rintro e w4 ⟨rfl, s4, hp4, hc4, hs4⟩
            have P4 := hid (P3.out.wrote hp4 hc4 hs4)
            have c40 := (Bo3.out.keep hc4 (No.out _ (Nat.le_refl _))).get 0 rfl
            have c41 := (Bo3.out.keep hc4 (No.out _ (Nat.le_refl _))).get 1 rfl
            have B4 := hid (below_chg B3.out B3.out.size hc4 P3.out.pen.pens)
            have T4 := hid (T3.out.chg hc4 (fun q hq => No.out _ (by have := (T3.out.lt q hq).1; omega)))
            have Hs4 := hid hs4
            have Hc4 := hid hc4
            clear hm3
            clear hp4 hc4 hs4
            go_wp2_with fail
            refine (reftext_n w4 at3 nt3 ct3 T Nt3.out T4.out.bsN (by have := Tl.out; omega)).mono ?_
            rintro e w5 ⟨v5, rfl, ho5, hb5⟩
            obtain ⟨a5, n5, c5, rfl, hn5, hs5, _⟩ := ob_n ho5
            have P5 := hid (P4.out.below hb5)
            have B5 := hid (B4.out.trans (hb5.mono B4.out.size))
            have S5 := hid hs5
            have N5 := hid hn5
            have hrow := P5.out.row
            have Hx := hid (show ((numL T.length ++ T) : List UInt8).length ≤ 150 from by have := numL_len10 (n := T.length) (by have := Tl.out; omega); have := Tl.out; rw [List.length_append]; omega)
            have T5 := hid (T4.out.below hb5)
            have Z5 := hid (Nat.le_trans (show w3.heap.size ≤ w4.heap.size from Hc4.out.size) hb5.size)
            clear ho5 hb5 hs5 hn5
            go_wp2_with (at_builtin; go_must (refine wpList_append_at (.tmp 37) (.tmp 39) _ rfl rfl _ 5 info_u8 under_bytes _ _ hrow rfl S5.out (by rw [N5.out]; rfl) (by have := want1_len b d; have := Hx.out; omega) B5.out.size ?_; intro v6 w6 ho6 hg6 hw6; have P6 := hid (P5.out.more ho6 hg6 hw6); have B6 := hid (B5.out.trans (grownBy_below hg6 B5.out.size (P5.out.row.ownBlock))); have T6 := hid (T5.out.chg (chg_grown hg6) (fun q hq hm => by have h1 := (T5.out.lt q hq).1; have h2 := Nv.out q (by simpa using hm); omega)); have Hw6 := hid hw6; clear ho6 hg6 hw6 hrow))
            obtain ⟨bt, hbt⟩ : ∃ bt, bt = wr.heap.size + 1 := ⟨_, rfl⟩
            have Hbt := hid hbt
            clear hbt
            go_loopw [43] (fun i wr' => TRel nt3 bt (.slice at3 nt3 ct3) w.heap.size g s4 (addN b d (numL T.length ++ T)) b v6 (want1 b d ++ (numL T.length ++ T)) w i wr') (fun i _ => nt3 - (intOf i).toNat)
            case atStart => rw [Hbt.out]; exact ⟨0, T, rfl, Nat.zero_le _, Nt3.out, T6.out, P6.out, B6.out⟩
            case round =>
              obtain ⟨j, ts, rfl, hj, hts, hT, hP, hB⟩ := hrel
              have Pj := hid hP
              have Bj := hid hB
              clear hP hB
              by_cases hjn : j < nt3
              · have hjn' : (j : Int) < (nt3 : Int) := by omega
                cases at3 with
                | none =>
                  exfalso
                  have h1 := CS.none S3.out rfl
                  have h2 := S3.out.fit'
                  have h3 := Nt3.out
                  omega
                | some x =>
                  obtain ⟨tb, off3, tsp⟩ := x
                  obtain ⟨e1, e2, e3, e4⟩ := At3.out _ rfl
                  dsimp only at e1 e2 e3 e4
                  subst e1 e2
                  obtain ⟨x, hc, hf, hT'⟩ := ob_at hT hts j hjn
                  rw [← xor1] at hT'
                  have Tj := hid hT'
                  have Ts := hid hts
                  have Pn := hid (Pj.out.chg (chg_setCell _ tb j (.int .u8 (bits .xor .u8 (x.toNat : Int) 1))) (by
                    intro q hq
                    rw [List.mem_singleton] at hq
                    rw [hq]
                    refine ⟨fun hm => ?_, fun he => ?_⟩
                    · unfold penS at hm
                      rcases List.mem_cons.1 hm with e | e
                      · exact No.out tb (by omega) (by rw [e]; simp [penS])
                      · rw [Option.mem_toList] at e
                        rcases Hs4.out tb e with h1 | h1
                        · exact No.out tb (by omega) (by simp [penS, h1])
                        · omega
                    · rcases Hw6.out with h1 | h1
                      · rw [h1] at he
                        have := Nv.out tb he
                        omega
                      · rw [h1] at he
                        cases he
                        have := Z5.out
                        omega))
                  have Bn := hid (below_chg Bj.out Bj.out.size (chg_setCell _ tb j (.int .u8 (bits .xor .u8 (x.toNat : Int) 1))) (by intro q hq; rw [List.mem_singleton] at hq; rw [hq]; have := HB.out.size; omega))
                  generalize x.toNat = xn at hc Tj Pn Bn
                  clear hT hT' hts
                  go_wp2_with fail
                  have RR : TRel nt3 bt (.slice (some ⟨tb, 0, none⟩) nt3 ct3) w.heap.size g s4 (addN b d (numL T.length ++ T)) b v6 (want1 b d ++ (numL T.length ++ T)) w (.int .i64 ((j : Int) + 1)) _ :=
                    ⟨j + 1, ts.set j (x ^^^ 1), by go_num, by omega, by rw [List.length_set]; exact Ts.out, Tj.out, Pn.out, Bn.out⟩
                  refine ⟨?_, by simp [intOf]; omega⟩
                  first | exact RR | ((repeat apply Exists.intro); refine ⟨RR, ?_⟩; and_intros <;> rfl)
              · have hjn' : ¬ ((j : Int) < (nt3 : Int)) := by omega
                clear hT hts
                go_wp2_with fail
                go_meet
                case rel => exact ⟨_, _, b, _, rfl, rfl, Pj.out, (fun hb => by subst hb; rfl), by have := addN_len b d (numL T.length ++ T); have := Hx.out; omega, Bj.out⟩
        case rest =>
          obtain ⟨s6, d6, b6, want6, rfl, rfl, hP6, hw6, hd6, hB6⟩ := hcut
          have Pm := hid hP6
          have Wm := hid hw6
          have Bm := hid hB6
          have Nm := hid hd6
          clear hP6 hw6 hB6 hd6
          cases b6
          all_goals
            go_wp2_with fail
            refine (bytes_any _ _ g _ _ _ Pm.out.pen (by have := Nm.out; omega)).mono ?_
            rintro e w7 ⟨v7, rfl, ho7, hb7⟩
            obtain ⟨a7, n7, c7, rfl, hn7, hs7, _⟩ := ob_n ho7
            have Hn7 := hid hn7
            have P7 := hid (Pm.out.below hb7)
            have B7 := hid (Bm.out.trans (hb7.mono Bm.out.size))
            have S7 := hid hs7
            clear ho7 hb7 hn7 hs7
          · obtain rfl := Wm.out (by simp)
            obtain ⟨a8, n8, c8, rfl, hn8, hs8, _⟩ := ob_n P7.out.row
            go_wp2_with fail
            refine (same_n _ _ _ _ _ _ _ _ w7 S7.out hs8 Hn7.out hn8).mono ?_
            clear hn8 hs8
            rintro e w' ⟨rfl, rfl⟩
            rw [show (want1 false want6 == want6) = true from beq_iff_eq.2 rfl]
            go_wp2_with fail
            have RR : WrRel l.length w.heap.size g w (.slice a8 n8 c8) (.bool false) (.int .i64 ((k : Int) + 1)) w7 :=
              ⟨k + 1, _, want6, false, by go_num, by omega, rfl, P7.out, by have := Nm.out; omega, B7.out⟩
            refine ⟨?_, by simp [intOf]; omega⟩
            first | exact RR | ((repeat apply Exists.intro); refine ⟨RR, ?_⟩; and_intros <;> rfl)
          · go_wp2_with fail
            refine (same_n _ _ _ _ _ _ _ _ w7 S7.out (BS.nil w7) Hn7.out rfl).mono ?_
            rintro e w' ⟨rfl, rfl⟩
            rw [show (want1 true d6 == []) = true from rfl]
            go_wp2_with fail
            have RR : WrRel l.length w.heap.size g w (.slice none 0 0) (.bool true) (.int .i64 ((k : Int) + 1)) w7 :=
              ⟨k + 1, _, d6, true, by go_num, by omega, rfl, P7.out.none, by have := Nm.out; omega, B7.out⟩
            refine ⟨?_, by simp [intOf]; omega⟩
            first | exact RR | ((repeat apply Exists.intro); refine ⟨RR, ?_⟩; and_intros <;> rfl)
    · clear Hok
      by_cases hkm : k < l.length
      · have h60' : (60 : Int) ≤ (k : Int) := by omega
        have hkm' : (k : Int) < (l.length : Int) := by omega
        have hcell : ∃ bo off, a = some ⟨bo, off, none⟩ ∧ w.cell? ⟨bo, off + k * 3, none⟩ = some (.int .u8 (l[k].d : Int)) ∧ w.cell? ⟨bo, off + (k * 3 + 1), none⟩ = some (.int .i64 l[k].n) ∧ w.cell? ⟨bo, off + (k * 3 + 2), none⟩ = some (.slice l[k].a l[k].t.length l[k].cap) := by
          obtain ⟨bo, off, e, hc⟩ := Hcs.out.at (by rw [flat_length opV 3 opV_length]; omega)
          have hx : l[k]? = some l[k] := List.getElem?_eq_getElem hkm
          exact ⟨bo, off, e, hc _ _ (flat_get opV 3 opV_length l k 0 _ hx (by omega)), hc _ _ (flat_get opV 3 opV_length l k 1 _ hx (by omega)), hc _ _ (flat_get opV 3 opV_length l k 2 _ hx (by omega))⟩
        obtain ⟨bo, off, rfl, hc0, hc1, hc2⟩ := hcell
        rw [← Nat.add_assoc] at hc1 hc2
        replace hc0 := cell_later HB.out hc0
        replace hc1 := cell_later HB.out hc1
        replace hc2 := cell_later HB.out hc2
        generalize l[k] = o at hc0 hc1 hc2
        go_wp2_with fail
        go_ret
        exact ⟨rfl, HB.out.trans (below_alloc _ _ |>.mono HB.out.size)⟩
      · have hkm' : ¬ ((k : Int) < (l.length : Int)) := by omega
        go_wp2_with fail
        go_ret
        exact ⟨rfl, HB.out⟩
end Go.Proofs.Ytaepinficmjnpaa
