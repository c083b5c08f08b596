/- The walk of LeasePlays: every script has the document's answers. -/
import Derived.Test.YtolgfemjpkgloaaLeaseI
import Derived.Deep.CutRange
namespace Go.Proofs.Ytolgfemjpkgloaa
open Go.RowKit Go.Quad _root_.Quad.Lease

/-- a book, or none: what it knows -/
def BK (w : World) (B : Nat) (bv : Value) (s : Nat) (L : List Nd) : Prop :=
  (bv = .pointer none ∧ L = []) ∨ ∃ g, bv = .pointer (some ⟨g, 0, none⟩) ∧ IsBook w g s L ∧ B ≤ g ∧ B ≤ s

theorem BK.below {w w' : World} {B : Nat} {bv : Value} {s : Nat} {L : List Nd} (h : BK w B bv s L) (hb : Below w.heap.size w w') : BK w' B bv s L :=
  h.imp id fun ⟨g, e, hB, h1, h2⟩ => ⟨g, e, hB.keep (Chg.of_below [] hb) (by simp) (by simp), h1, h2⟩

theorem hear_bk (w : World) (B : Nat) (bv : Value) (s : Nat) (L : List Nd) (i : Int) (now life : Nat) (h : BK w B bv s L) (hi : -9223372036854775808 ≤ i ∧ i ≤ 9223372036854775807) (hn : now ≤ 4294967295) (hl : life ≤ 4294967295) :
    Calls Try.prog 9 #[bv, .int .i64 i, .int .u32 (now : Int), .int .u32 (life : Int)] w fun e w' =>
      e = .returned (.tuple #[.bool (hearN L i now life).2.1, .bool (hearN L i now life).2.2]) ∧ BK w' B bv s (hearN L i now life).1 ∧ Chg [s] w w' := by
  rcases h with ⟨rfl, rfl⟩ | ⟨g, rfl, hB, h1, h2⟩
  · have e : hearN [] i now life = ([], false, false) := by unfold hearN; rw [if_pos (by simp; omega)]
    rw [e]
    refine (nilhear_calls w i now life).mono ?_
    rintro e w' ⟨rfl, rfl⟩
    exact ⟨rfl, .inl ⟨rfl, rfl⟩, Chg.refl _ _⟩
  · refine (hear_calls w g s L i now life hB hi hn hl).mono ?_
    rintro e w' ⟨rfl, hB', hc⟩
    exact ⟨rfl, .inr ⟨g, rfl, hB', h1, h2⟩, hc⟩

def TickB (w : World) (B : Nat) (bv : Value) (s : Nat) (L : List Nd) (gs : List (Nat × Nat)) (ws : List Nat) (e : Ending) (w' : World) : Prop :=
  ∃ ga gc aa ac, e = .returned (.tuple #[.slice ga gs.length gc, .slice aa ws.length ac]) ∧ CS w' ga gc 2 (gs.flatMap grV) ∧ CS w' aa ac 1 (ws.flatMap inV) ∧ BK w' B bv s L ∧ Chg [s] w w'

theorem tick_bk (w : World) (B : Nat) (bv : Value) (s : Nat) (l : List Nd) (now : Nat) (h : BK w B bv s l) (hn : now ≤ 4294967295) {L : List Nd} {gs : List (Nat × Nat)} {ws : List Nat} (hr : tickN l 0 now = (L, gs, ws)) :
    Calls Try.prog 10 #[bv, .int .u32 (now : Int)] w (TickB w B bv s L gs ws) := by
  rcases h with ⟨rfl, rfl⟩ | ⟨g, rfl, hB, h1, h2⟩
  · cases hr
    refine (niltick_calls w now).mono ?_
    rintro e w' ⟨rfl, rfl⟩
    exact ⟨none, 0, none, 0, rfl, ⟨by simp, by simp [maxLen], fun _ => rfl, .inl rfl⟩, ⟨by simp, by simp [maxLen], fun _ => rfl, .inl rfl⟩, .inl ⟨rfl, rfl⟩, Chg.refl _ _⟩
  · refine (tick_u w g s l now hB hn hr).mono ?_
    rintro e w' ⟨ga, gc, aa, ac, rfl, hg, ha, hB', hc, _⟩
    exact ⟨ga, gc, aa, ac, rfl, hg, ha, .inr ⟨g, rfl, hB', h1, h2⟩, hc⟩

theorem nodeAt_nil (i : Int) : nodeAt [] i = zero := by unfold nodeAt; rw [if_pos (by simp; omega)]

theorem state_bk (w : World) (B : Nat) (bv : Value) (s : Nat) (L : List Nd) (i : Int) (h : BK w B bv s L) (hi : -9223372036854775808 ≤ i ∧ i ≤ 9223372036854775807) (n : Nat) :
    Calls Try.prog 11 #[bv, .int .i64 i] (w.drewN n) fun e w' => e = .returned (.int .u8 ((nodeAt L i).st : Int)) ∧ ∃ m, w' = w.drewN m := by
  rcases h.below (below_drewN (Below.refl _ _) n) with ⟨rfl, rfl⟩ | ⟨g, rfl, hB, h1, h2⟩
  · rw [nodeAt_nil]
    refine (nilstate_calls _ i).mono ?_
    rintro e w' ⟨rfl, rfl⟩
    exact ⟨rfl, n, rfl⟩
  · refine (state_calls _ g s L i hB hi).mono ?_
    rintro e w' ⟨rfl, rfl⟩
    exact ⟨rfl, n, rfl⟩

theorem life_bk (w : World) (B : Nat) (bv : Value) (s : Nat) (L : List Nd) (i : Int) (h : BK w B bv s L) (hi : -9223372036854775808 ≤ i ∧ i ≤ 9223372036854775807) (n : Nat) :
    Calls Try.prog 15 #[bv, .int .i64 i] (w.drewN n) fun e w' => e = .returned (.int .u32 ((nodeAt L i).life : Int)) ∧ ∃ m, w' = w.drewN m := by
  rcases h.below (below_drewN (Below.refl _ _) n) with ⟨rfl, rfl⟩ | ⟨g, rfl, hB, h1, h2⟩
  · rw [nodeAt_nil]
    refine (nillife_calls _ i).mono ?_
    rintro e w' ⟨rfl, rfl⟩
    exact ⟨rfl, n, rfl⟩
  · refine (life_calls _ g s L i hB hi).mono ?_
    rintro e w' ⟨rfl, rfl⟩
    exact ⟨rfl, n, rfl⟩

theorem until_bk (w : World) (B : Nat) (bv : Value) (s : Nat) (L : List Nd) (i : Int) (h : BK w B bv s L) (hi : -9223372036854775808 ≤ i ∧ i ≤ 9223372036854775807) (n : Nat) :
    Calls Try.prog 16 #[bv, .int .i64 i] (w.drewN n) fun e w' => e = .returned (.int .u32 ((nodeAt L i).until' : Int)) ∧ ∃ m, w' = w.drewN m := by
  rcases h.below (below_drewN (Below.refl _ _) n) with ⟨rfl, rfl⟩ | ⟨g, rfl, hB, h1, h2⟩
  · rw [nodeAt_nil]
    refine (niluntil_calls _ i).mono ?_
    rintro e w' ⟨rfl, rfl⟩
    exact ⟨rfl, n, rfl⟩
  · refine (until_calls _ g s L i hB hi).mono ?_
    rintro e w' ⟨rfl, rfl⟩
    exact ⟨rfl, n, rfl⟩

/-- both know the same -/
structure Pl (w0 w : World) (bv : Value) (s : Nat) (lv : Value) (L : List Nd) : Prop where
  bk : BK w w0.heap.size bv s L
  rn : ∃ a n c, lv = .slice a n c ∧ L.length = n ∧ RN w a c L ∧ (L = [] ∨ ∀ x, a = some x → x.block ≠ s)
  below : Below w0.heap.size w0 w
  old : w0.heap.size ≤ s
  lt : L = [] ∨ s < w.heap.size

theorem Pl.later {w0 w w' : World} {bv : Value} {s : Nat} {lv : Value} {L : List Nd} (h : Pl w0 w bv s lv L) (hb : Below w.heap.size w w') : Pl w0 w' bv s lv L := by
  obtain ⟨a, n, c, e, hn, hr, hs⟩ := h.rn
  exact ⟨h.bk.below hb, ⟨a, n, c, e, hn, hr.below hb, hs⟩, h.below.trans (hb.mono h.below.size), h.old, h.lt.imp id fun h1 => Nat.lt_of_lt_of_le h1 hb.size⟩

theorem rn_chg {w w' : World} {a : Option Addr} {c s : Nat} {L : List Nd} (h : RN w a c L) (hc : Chg [s] w w') (hs : L = [] ∨ ∀ x, a = some x → x.block ≠ s) : RN w' a c L := by
  refine ⟨?_, h.fit, h.ok, h.small⟩
  rcases hs with rfl | hs
  · exact ⟨h.row.fit, h.row.max, h.row.none, .inl rfl⟩
  · exact h.row.chg hc fun x hx hm => hs x hx (by simpa using hm)

theorem Pl.step {w0 w5 w6 : World} {bv : Value} {s : Nat} {a5 : Option Addr} {n5 c5 : Nat} {L' : List Nd} (hB : BK w6 w0.heap.size bv s L') (hc : Chg [s] w5 w6) (hr : RN w5 a5 c5 L') (hn : L'.length = n5) (hne : L' = [] ∨ ∀ x, a5 = some x → x.block ≠ s)
    (hb : Below w0.heap.size w0 w5) (hs : w0.heap.size ≤ s) (hlt : L' = [] ∨ s < w5.heap.size) : Pl w0 w6 bv s (.slice a5 n5 c5) L' :=
  ⟨hB, ⟨a5, n5, c5, rfl, hn, rn_chg hr hc hne, hne⟩, hb.trans (hc.below hb.size (by intro k hk; simp at hk; omega)), hs, hlt.imp id fun h => Nat.lt_of_lt_of_le h hc.size⟩

theorem nil_of_len {L L' : List Nd} (h : L'.length = L.length) (h0 : L = []) : L' = [] := List.eq_nil_of_length_eq_zero (by rw [h, h0]; rfl)
theorem hearN_length (L : List Nd) (i : Int) (now life : Nat) : (hearN L i now life).1.length = L.length := by
  unfold hearN; split
  · rfl
  · simp

def PlRel (m : Nat) (w0 : World) (bv : Value) (s : Nat) (lv i : Value) (w : World) : Prop :=
  ∃ (k : Nat) (L : List Nd), i = .int .i64 (k : Int) ∧ k ≤ m ∧ Pl w0 w bv s lv L
def PlMid (k : Nat) (w0 : World) (bv : Value) (s : Nat) (lv i : Value) (w : World) : Prop :=
  ∃ (L : List Nd), i = .int .i64 (k : Int) ∧ Pl w0 w bv s lv L
def PlRel2 (m : Nat) (W0 : World) (i : Value) (w : World) : Prop := ∃ q n : Nat, i = .int .i64 (q : Int) ∧ q ≤ m ∧ w = W0.drewN n
def PlRel4 (w0 : World) (bv : Value) (s : Nat) (lv : Value) (L : List Nd) (i : Value) (w : World) : Prop := ∃ q : Nat, i = .int .i64 ((q : Int) - 1) ∧ q ≤ 18 ∧ Pl w0 w bv s lv L

theorem tickN_ok : ∀ (l : List Nd) (k now : Nat), (∀ n ∈ l, okNd n) → now ≤ 4294967295 → ∀ n ∈ (tickN l k now).1, okNd n
  | [], _, _, _, _, n, hn => by simp [tickN] at hn
  | x :: l, k, now, h, hnow, n, hn => by
    simp only [tickN, List.mem_cons] at hn
    rcases hn with rfl | hn
    · exact ok_tick1 x now (h x (List.mem_cons_self ..))
    · exact tickN_ok l (k + 1) now (fun y hy => h y (List.mem_cons_of_mem _ hy)) hnow n hn

set_option maxRecDepth 20000 in
set_option maxHeartbeats 8000000 in
theorem leasePlays_walk (nodes : Int) (v : Value) (w : World) (hnodes : (Lit.int .i64 nodes).wf = true) (h : RV Try.prog w 39 v) :
    Calls Try.prog 4 #[.int .i64 nodes, v] w fun e w' => e = .returned (.bool true) ∧ Below w.heap.size w w' := by
  obtain ⟨a, cap, l, rfl, hok, hcs, hlc⟩ := ops_open h
  have hmx := CS.max hcs
  have hl : (l.length : Int) ≤ 9223372036854775807 := by unfold maxLen at hmx; omega
  have Hok := hid hok
  have Hcs := hid hcs
  have e1 := fun w a n c => Lib.run_eql_slice_nil (P := Try.prog) w 40 52 a n c 0 0 under_rnodes
  clear h hok hcs hmx hlc hnodes
  by_cases hv : nodes < 1 ∨ 16 < nodes
  · have Hv := hid hv
    clear hv
    go_enter Try.func4, Try.ntmps4
    go_wp2_with fail
    refine (awake_calls w).mono ?_
    rintro e w1 ⟨rfl, hb⟩
    have H1 := hid hb
    clear hb
    go_wp2_with fail
    refine (newnil_calls _ _ Hv.out).mono ?_
    rintro e w' ⟨rfl, rfl⟩
    go_wp2_with fail
    refine (refnewnil_calls _ _ Hv.out).mono ?_
    rintro e w' ⟨rfl, rfl⟩
    go_wp2_with fail
    obtain ⟨s, hs⟩ : ∃ s : Nat, s = w.heap.size := ⟨_, rfl⟩
    have P0 : Kept (Pl w w1 (.pointer none) s (.slice none 0 0) []) := ⟨⟨.inl ⟨rfl, rfl⟩, ⟨none, 0, 0, rfl, rfl, ⟨⟨by simp, by simp [maxLen], fun _ => rfl, .inl rfl⟩, Nat.le_refl _, by simp, by simp⟩, .inl rfl⟩, H1.out, Nat.le_of_eq hs.symm, .inl rfl⟩⟩
    clear hs
    go_loopw [7, 49] (fun lv i wr => PlRel l.length w (.pointer none) s lv i wr) (fun _ i _ => l.length - (intOf i).toNat)
    case atStart => exact ⟨0, _, rfl, Nat.zero_le _, P0.out⟩
    case round =>
      clear P0
      obtain ⟨k, L, rfl, hk, hP⟩ := hrel
      have P := hid hP
      obtain ⟨ra, rn, rc, rfl, hrl, hR, hsp⟩ := hP.rn
      have Rl := hid hrl
      have R := hid hR
      have Sp := hid hsp
      have Bk := hid hP.bk
      have Bw := hid hP.below
      have Old := hid hP.old
      have Lt := hid hP.lt
      clear hP hrl hR hsp
      by_cases hgo : k < l.length ∧ k < 100
      · obtain ⟨hkl, h60⟩ := hgo
        have Ho := hid (Hok.out _ (List.getElem_mem hkl))
        obtain ⟨bo, off, rfl, hc⟩ := cs_row opV_length Hcs.out hkl (by decide)
        have d0 := cell_later Bw.out (hc 0 _ rfl)
        have d1 := cell_later Bw.out (hc 1 _ rfl)
        have d2 := cell_later Bw.out (hc 2 _ rfl)
        have d3 := cell_later Bw.out (hc 3 _ rfl)
        clear hc
        generalize l[k] = o at Ho d0 d1 d2 d3
        have hkl' : (k : Int) < (l.length : Int) := by omega
        have h60' : ¬ ((100 : Int) ≤ (k : Int)) := by omega
        have Hk := hid hkl
        rw [Nat.add_zero] at d0
        obtain ⟨wo, rfl⟩ : ∃ wo : World, wo = wr := ⟨_, rfl⟩
        have RA := hid (fun X => R.out.below (below_alloc wo X))
        have BA := hid (fun X => Bk.out.below (below_alloc wo X))
        have WA := hid (fun X => Bw.out.trans ((below_alloc wo X).mono Bw.out.size))
        have Bl0 := hid (blk_alloc wo (opV o) 44)
        have Zo : Kept (∀ X, (wo.alloc X).heap.size = wo.heap.size + 1) := ⟨fun X => by simp⟩
        go_upto_if 58 with fail
        go_cut [7, 49] from 49 to 187 (fun lv i w' => PlMid k w (.pointer none) s lv i w')
        case first =>
          by_cases hd : o.d < 2
          · have hd' : (o.d : Int) < 2 := by omega
            clear hd
            go_wp2_with fail
            refine (refhear_calls _ ra rn rc L o.node o.now o.life (RA.out _) Rl.out Ho.out.2.1 Ho.out.2.2.1 Ho.out.2.2.2).mono ?_
            rintro e w5 ⟨a5, n5, c5, rfl, hn5, hr5, hb5, ha5⟩
            have B5 := hid ((BA.out _).below hb5)
            have R5 := hid hr5
            have N5 := hid hn5
            have W5 := hid ((WA.out _).trans (hb5.mono (WA.out _).size))
            have Bo5 := Bl0.out.below hb5
            have q1 := Bo5.get 1 rfl
            have q2 := Bo5.get 2 rfl
            have q3 := Bo5.get 3 rfl
            have Sz := hid hb5.size
            have A5 := hid ha5
            clear hb5 hr5 hn5 ha5 Bo5
            go_wp2_with fail
            refine (hear_bk w5 _ _ s L o.node o.now o.life B5.out Ho.out.2.1 Ho.out.2.2.1 Ho.out.2.2.2).mono ?_
            rintro e w6 ⟨rfl, hB, hc⟩
            have Pn := hid (Pl.step hB hc R5.out N5.out (by
              rcases Lt.out with h0 | h0
              · exact .inl (nil_of_len (hearN_length L _ _ _) h0)
              · rcases Sp.out with h1 | h1
                · exact .inl (nil_of_len (hearN_length L _ _ _) h1)
                · right
                  intro x hx
                  rcases A5.out with h2 | h2
                  · exact h1 x (by rw [← h2]; exact hx)
                  · have := h2 x hx
                    rw [Zo.out] at this
                    omega) W5.out Old.out (Lt.out.imp (nil_of_len (hearN_length L _ _ _)) fun h => by have := Sz.out; rw [Zo.out] at this; omega))
            clear hB hc
            go_wp2_with fail
            go_meet
            case rel => exact ⟨_, rfl, Pn.out⟩
          · have hd' : ¬ ((o.d : Int) < 2) := by omega
            clear hd
            have hlen := tickN_length L 0 o.now
            have hok := hid (fun (n : Nd) (hn : n ∈ (tickN L 0 o.now).1) => tickN_ok L 0 o.now R.out.ok Ho.out.2.2.1 n hn)
            generalize hr : tickN L 0 o.now = r at hlen hok
            obtain ⟨L2, gs, ws⟩ := r
            dsimp only at hlen hok
            have Hr := hid hr
            have Hlen := hid hlen
            clear hr hlen
            go_wp2_with fail
            refine (reftick_calls _ ra rn rc L o.now (RA.out _) Rl.out Ho.out.2.2.1).mono ?_
            rw [Hr.out]
            rintro e w5 ⟨ov, gv, av, rfl, hT⟩
            obtain ⟨oa, on, oc, rfl, hon, hoc, hocs⟩ := hT.o.cs
            obtain ⟨xa, xn, xc, rfl, hxn, _, hxcs⟩ := hT.g.cs
            obtain ⟨ya, yn, yc, rfl, hyn, _, hycs⟩ := hT.a.cs
            have R5 : Kept (RN w5 oa oc L2) := ⟨⟨hocs, by rw [hon]; exact hoc, hok.out, by rw [Hlen.out]; exact R.out.small⟩⟩
            have B5 := hid ((BA.out _).below hT.b)
            have W5 := hid ((WA.out _).trans (hT.b.mono (WA.out _).size))
            have Bo5 := Bl0.out.below hT.b
            have q2 := Bo5.get 2 rfl
            have Sz := hid hT.b.size
            have Oo : Kept (∀ x, oa = some x → wo.heap.size + 1 ≤ x.block) := ⟨fun x hx => by subst hx; have := (hT.o.ownBlock x.block rfl).1; rw [Zo.out] at this; omega⟩
            have Og : Kept (∀ x, xa = some x → wo.heap.size + 1 ≤ x.block) := ⟨fun x hx => by subst hx; have := (hT.g.ownBlock x.block rfl).1; rw [Zo.out] at this; omega⟩
            have Oa : Kept (∀ x, ya = some x → wo.heap.size + 1 ≤ x.block) := ⟨fun x hx => by subst hx; have := (hT.a.ownBlock x.block rfl).1; rw [Zo.out] at this; omega⟩
            have X5 := hid hxcs
            have Y5 := hid hycs
            have On := hid hon
            subst hxn hyn
            clear hT hoc hocs hxcs hycs hon Bo5
            go_wp2_with fail
            refine (tick_bk w5 _ _ s L o.now B5.out Ho.out.2.2.1 Hr.out).mono ?_
            rintro e w6 ⟨ga, gc, aa, ac, rfl, hg, ha, hB, hc⟩
            have Pn := hid (Pl.step hB hc R5.out On.out (by
              rcases Lt.out with h0 | h0
              · exact .inl (nil_of_len Hlen.out h0)
              · right
                intro x hx
                have := Oo.out x hx
                omega) W5.out Old.out (Lt.out.imp (nil_of_len Hlen.out) fun h => by have := Sz.out; rw [Zo.out] at this; omega))
            have hs' : Kept (s ≤ wo.heap.size ∨ L = []) := ⟨by rcases Lt.out with h | h; exact .inr h; exact .inl (by omega)⟩
            have X6 : Kept (CS w6 xa xc 2 (gs.flatMap grV)) := ⟨by
              rcases Lt.out with h0 | h0
              · have e0 : gs = [] := by have := Hr.out; rw [h0] at this; cases this; rfl
                rw [e0]; exact ⟨by simp, X5.out.max, X5.out.none, .inl rfl⟩
              · exact X5.out.chg hc (fun x hx hm => by have := Og.out x hx; simp at hm; omega)⟩
            have Y6 : Kept (CS w6 ya yc 1 (ws.flatMap inV)) := ⟨by
              rcases Lt.out with h0 | h0
              · have e0 : ws = [] := by have := Hr.out; rw [h0] at this; cases this; rfl
                rw [e0]; exact ⟨by simp, Y5.out.max, Y5.out.none, .inl rfl⟩
              · exact Y5.out.chg hc (fun x hx hm => by have := Oa.out x hx; simp at hm; omega)⟩
            have G6 := hid hg
            have A6 := hid ha
            have lg : (gs.length : Int) ≤ 1000 := by have h1 := (tickN_le L 0 o.now).1; rw [Hr.out] at h1; have := R.out.small; dsimp only at h1; omega
            have la : (ws.length : Int) ≤ 1000 := by have h1 := (tickN_le L 0 o.now).2; rw [Hr.out] at h1; have := R.out.small; dsimp only at h1; omega
            clear hB hc hg ha
            go_wp2_with fail
            go_loopw [121] (fun i wr => PlRel2 gs.length w6 i wr) (fun i _ => gs.length - (intOf i).toNat)
            case atStart => exact ⟨0, 0, rfl, Nat.zero_le _, rfl⟩
            case round =>
              obtain ⟨q, m, rfl, hq, rfl⟩ := hrel
              by_cases hqg : q < gs.length
              · have hqg' : (q : Int) < (gs.length : Int) := by omega
                obtain ⟨b1, o1, rfl, y0, y1⟩ := gr_at G6.out hqg
                obtain ⟨b2, o2, rfl, z0, z1⟩ := gr_at X6.out hqg
                generalize gs[q] = x at y0 y1 z0 z1
                go_wp2_with fail
                go_quiet (fail)
                go_wp2_with fail
                have RR : PlRel2 gs.length w6 (.int .i64 ((q : Int) + 1)) (w6.drewN (m + nq)) := ⟨q + 1, m + nq, by go_num, by omega, rfl⟩
                refine ⟨?_, by simp [intOf]; omega⟩
                first | exact RR | ((repeat apply Exists.intro); refine ⟨RR, ?_⟩; and_intros <;> rfl)
              · have hqg' : ¬ ((q : Int) < (gs.length : Int)) := by omega
                have A7 := hid (A6.out.below (below_drewN (Below.refl _ w6) m))
                have Y7 := hid (Y6.out.below (below_drewN (Below.refl _ w6) m))
                have P7 := hid (Pn.out.later (below_drewN (Below.refl _ w6) m))
                go_wp2_with fail
                generalize w6.drewN m = w7 at A7 Y7 P7 ⊢
                go_loopw [136] (fun i wr => PlRel2 ws.length w7 i wr) (fun i _ => ws.length - (intOf i).toNat)
                case atStart => exact ⟨0, 0, rfl, Nat.zero_le _, rfl⟩
                case round =>
                  obtain ⟨p, m2, rfl, hp, rfl⟩ := hrel
                  by_cases hpg : p < ws.length
                  · have hpg' : (p : Int) < (ws.length : Int) := by omega
                    obtain ⟨b1, o1, rfl, hc1⟩ := cs_row inV_length A7.out hpg (by decide)
                    obtain ⟨b2, o2, rfl, hc2⟩ := cs_row inV_length Y7.out hpg (by decide)
                    have y0 := hc1 0 _ rfl
                    have z0 := hc2 0 _ rfl
                    clear hc1 hc2
                    rw [Nat.add_zero, Nat.mul_one] at y0 z0
                    generalize ws[p] = x at y0 z0
                    go_wp2_with fail
                    go_quiet (fail)
                    go_wp2_with fail
                    have RR : PlRel2 ws.length w7 (.int .i64 ((p : Int) + 1)) (w7.drewN (m2 + nq)) := ⟨p + 1, m2 + nq, by go_num, by omega, rfl⟩
                    refine ⟨?_, by simp [intOf]; omega⟩
                    first | exact RR | ((repeat apply Exists.intro); refine ⟨RR, ?_⟩; and_intros <;> rfl)
                  · have hpg' : ¬ ((p : Int) < (ws.length : Int)) := by omega
                    have P8 := hid (P7.out.later (below_drewN (Below.refl _ w7) m2))
                    go_wp2_with fail
                    go_meet
                    case rel => exact ⟨_, rfl, P8.out⟩
        case rest =>
          obtain ⟨L2, rfl, hP⟩ := hcut
          have P := hid hP
          clear hP
          obtain ⟨a2, n2, c2, rfl, hn2, hR2, hs2⟩ := P.out.rn
          have N2 := hid hn2
          have R2 := hid hR2
          have h16 : (n2 : Int) ≤ 16 := by have := hR2.small; omega
          clear hn2 hR2 hs2
          go_wp2_with fail
          go_loopw [23] (fun i wr => PlRel4 w (.pointer none) s (.slice a2 n2 c2) L2 i wr) (fun i _ => (18 - intOf i).toNat)
          case atStart => exact ⟨0, rfl, by omega, P.out⟩
          case round =>
            clear P
            obtain ⟨q, rfl, hq, hP⟩ := hrel
            obtain ⟨a3, n3, c3, e3, hn3, hR3, _⟩ := hP.rn
            cases e3
            have R3 := hid hR3
            have P := hid hP
            clear hP hn3 hR3
            have PA := hid (fun X => P.out.later (below_alloc wr X))
            by_cases hq17 : q ≤ 17
            · have hq17' : (q : Int) - 1 ≤ 16 := by omega
              have RRf : Kept (∀ (X : Obj) (m : Nat), PlRel4 w (.pointer none) s (.slice a2 n2 c2) L2 (.int .i64 (q : Int)) ((wr.alloc X).drewN m)) := ⟨fun X m => ⟨q + 1, by congr 1; omega, by omega, (PA.out X).later (below_drewN (Below.refl _ _) m)⟩⟩
              by_cases hin : 1 ≤ q ∧ q ≤ n2
              · obtain ⟨p, rfl⟩ : ∃ p, q = p + 1 := ⟨q - 1, by omega⟩
                have hpl : p < L2.length := by rw [N2.out]; omega
                have hp1 : (p : Int) < (n2 : Int) := by omega
                have hp2 : (p : Int) ≤ 16 := by omega
                have ei : (((p + 1 : Nat) : Int) - 1) = (p : Int) := by omega
                rw [ei]
                rw [show (((p + 1 : Nat)) : Int) = (p : Int) + 1 from by omega] at RRf
                obtain ⟨b3, o3, e3, hc⟩ := cs_row ndV_length R3.out.row hpl (by decide)
                subst e3
                have z0 := hc 0 _ rfl
                have z1 := hc 1 _ rfl
                have z2 := hc 2 _ rfl
                have z3 := hc 3 _ rfl
                rw [Nat.add_zero] at z0
                replace z0 := fun X => cell_later (below_alloc wr X) z0
                replace z1 := fun X => cell_later (below_alloc wr X) z1
                replace z2 := fun X => cell_later (below_alloc wr X) z2
                replace z3 := fun X => cell_later (below_alloc wr X) z3
                clear hc
                have en : nodeAt L2 (p : Int) = L2[p] := by
                  unfold nodeAt
                  rw [if_neg (by have := N2.out; omega), Int.toNat_natCast, List.getD_eq_getElem?_getD, List.getElem?_eq_getElem hpl]; rfl
                have s1 := fun X n => state_bk (wr.alloc X) _ _ s L2 (p : Int) (PA.out X).bk (by omega) n
                have s2 := fun X n => life_bk (wr.alloc X) _ _ s L2 (p : Int) (PA.out X).bk (by omega) n
                have s3 := fun X n => until_bk (wr.alloc X) _ _ s L2 (p : Int) (PA.out X).bk (by omega) n
                rw [en] at s1 s2 s3
                generalize L2[p] = x at z0 z1 z2 z3 s1 s2 s3
                have S1 := hid s1
                have S2 := hid s2
                have S3 := hid s3
                clear en s1 s2 s3 ei hin hq hq17 hq17'
                go_wp2_with fail
                go_quiet (first | exact S1.out _ _ | exact S2.out _ _ | exact S3.out _ _)
                go_wp2_with fail
                have RR := RRf.out (.cells (ndV x).toArray 52) nq
                refine ⟨?_, by simp [intOf]; omega⟩
                first | exact RR | ((repeat apply Exists.intro); refine ⟨RR, ?_⟩; and_intros <;> rfl)
              · have en : nodeAt L2 ((q : Int) - 1) = zero := by
                  unfold nodeAt
                  rw [if_pos (by have := N2.out; omega)]
                have s1 := fun X n => state_bk (wr.alloc X) _ _ s L2 ((q : Int) - 1) (PA.out X).bk (by omega) n
                have s2 := fun X n => life_bk (wr.alloc X) _ _ s L2 ((q : Int) - 1) (PA.out X).bk (by omega) n
                have s3 := fun X n => until_bk (wr.alloc X) _ _ s L2 ((q : Int) - 1) (PA.out X).bk (by omega) n
                rw [en] at s1 s2 s3
                rw [show ((zero.st : Nat) : Int) = 0 from rfl] at s1
                rw [show ((zero.life : Nat) : Int) = 0 from rfl] at s2
                rw [show ((zero.until' : Nat) : Int) = 0 from rfl] at s3
                have S1 := hid s1
                have S2 := hid s2
                have S3 := hid s3
                clear en s1 s2 s3
                by_cases q0 : q = 0
                · have hk0 : ¬ (0 ≤ (q : Int) - 1) := by omega
                  clear q0 hin
                  go_wp2_with fail
                  go_quiet (first | exact S1.out _ _ | exact S2.out _ _ | exact S3.out _ _)
                  go_wp2_with fail
                  have RR := RRf.out (.cells (ndV zero).toArray 52) nq
                  refine ⟨?_, by simp [intOf]; omega⟩
                  first | exact RR | ((repeat apply Exists.intro); refine ⟨RR, ?_⟩; and_intros <;> rfl)
                · have hk0 : 0 ≤ (q : Int) - 1 := by omega
                  have hk1 : ¬ ((q : Int) - 1 < (n2 : Int)) := by omega
                  clear q0 hin
                  go_wp2_with fail
                  go_quiet (first | exact S1.out _ _ | exact S2.out _ _ | exact S3.out _ _)
                  go_wp2_with fail
                  have RR := RRf.out (.cells (ndV zero).toArray 52) nq
                  refine ⟨?_, by simp [intOf]; omega⟩
                  first | exact RR | ((repeat apply Exists.intro); refine ⟨RR, ?_⟩; and_intros <;> rfl)
            · have hq17' : ¬ ((q : Int) - 1 ≤ 16) := by omega
              go_wp2_with fail
              have RR : PlRel l.length w (.pointer none) s (.slice a2 n2 c2) (.int .i64 ((k : Int) + 1)) wr := ⟨k + 1, L2, by go_num, by have := Hk.out; omega, P.out⟩
              refine ⟨?_, by simp [intOf]; have := Hk.out; omega⟩
              first | exact RR | ((repeat apply Exists.intro); refine ⟨RR, ?_⟩; and_intros <;> rfl)
      · by_cases hkl : k < l.length
        · obtain ⟨bo, off, rfl, hc⟩ := cs_row opV_length Hcs.out hkl (by decide)
          have d0 := cell_later Bw.out (hc 0 _ rfl)
          have d1 := cell_later Bw.out (hc 1 _ rfl)
          have d2 := cell_later Bw.out (hc 2 _ rfl)
          have d3 := cell_later Bw.out (hc 3 _ rfl)
          clear hc
          generalize l[k] = o at d0 d1 d2 d3
          have hkl' : (k : Int) < (l.length : Int) := by omega
          have h60' : (100 : Int) ≤ (k : Int) := by omega
          rw [Nat.add_zero] at d0
          go_wp2_with fail
          go_ret
          exact ⟨rfl, Bw.out.trans ((below_alloc _ _).mono Bw.out.size)⟩
        · have hkl' : ¬ ((k : Int) < (l.length : Int)) := by omega
          go_wp2_with fail
          go_ret
          exact ⟨rfl, Bw.out⟩
  · obtain ⟨N, rfl⟩ : ∃ N : Nat, nodes = (N : Int) := ⟨nodes.toNat, by omega⟩
    have Hv := hid (show 1 ≤ N ∧ N ≤ 16 by omega)
    clear hv
    go_enter Try.func4, Try.ntmps4
    go_wp2_with fail
    refine (awake_calls w).mono ?_
    rintro e w1 ⟨rfl, hb⟩
    have H1 := hid hb
    clear hb
    go_wp2_with fail
    refine (newbook_calls w1 N Hv.out).mono ?_
    rintro e w2 ⟨g, s, rfl, hB, hs, hsg, hb⟩
    have B2 := hid hB
    have H2 := hid (H1.out.trans (hb.mono H1.out.size))
    have O2 := hid (And.intro (Nat.le_trans H1.out.size hs) hsg)
    have Z2 := hid hB.row.lt
    clear hB hs hsg hb
    go_wp2_with fail
    refine (refnew_calls w2 N Hv.out).mono ?_
    rintro e w3 ⟨ra, rfl, hR, hb⟩
    have P0 : Kept (Pl w w3 (.pointer (some ⟨g, 0, none⟩)) s (.slice (some ra) N N) (List.replicate N zero)) := ⟨⟨.inr ⟨g, rfl, B2.out.keep (Chg.of_below [] hb) (by simp) (by simp), by have := O2.out; omega, O2.out.1⟩, ⟨some ra, N, N, rfl, by simp, hR.1, .inr fun x hx => by cases hx; have := hR.2; have := Z2.out; omega⟩, H2.out.trans (hb.mono H2.out.size), O2.out.1, .inr (Nat.lt_of_lt_of_le Z2.out hb.size)⟩⟩
    clear hR hb
    go_wp2_with fail
    go_loopw [7, 49] (fun lv i wr => PlRel l.length w (.pointer (some ⟨g, 0, none⟩)) s lv i wr) (fun _ i _ => l.length - (intOf i).toNat)
    case atStart => exact ⟨0, _, rfl, Nat.zero_le _, P0.out⟩
    case round =>
      clear P0
      obtain ⟨k, L, rfl, hk, hP⟩ := hrel
      have P := hid hP
      obtain ⟨ra, rn, rc, rfl, hrl, hR, hsp⟩ := hP.rn
      have Rl := hid hrl
      have R := hid hR
      have Sp := hid hsp
      have Bk := hid hP.bk
      have Bw := hid hP.below
      have Old := hid hP.old
      have Lt := hid hP.lt
      clear hP hrl hR hsp
      by_cases hgo : k < l.length ∧ k < 100
      · obtain ⟨hkl, h60⟩ := hgo
        have Ho := hid (Hok.out _ (List.getElem_mem hkl))
        obtain ⟨bo, off, rfl, hc⟩ := cs_row opV_length Hcs.out hkl (by decide)
        have d0 := cell_later Bw.out (hc 0 _ rfl)
        have d1 := cell_later Bw.out (hc 1 _ rfl)
        have d2 := cell_later Bw.out (hc 2 _ rfl)
        have d3 := cell_later Bw.out (hc 3 _ rfl)
        clear hc
        generalize l[k] = o at Ho d0 d1 d2 d3
        have hkl' : (k : Int) < (l.length : Int) := by omega
        have h60' : ¬ ((100 : Int) ≤ (k : Int)) := by omega
        have Hk := hid hkl
        rw [Nat.add_zero] at d0
        obtain ⟨wo, rfl⟩ : ∃ wo : World, wo = wr := ⟨_, rfl⟩
        have RA := hid (fun X => R.out.below (below_alloc wo X))
        have BA := hid (fun X => Bk.out.below (below_alloc wo X))
        have WA := hid (fun X => Bw.out.trans ((below_alloc wo X).mono Bw.out.size))
        have Bl0 := hid (blk_alloc wo (opV o) 44)
        have Zo : Kept (∀ X, (wo.alloc X).heap.size = wo.heap.size + 1) := ⟨fun X => by simp⟩
        go_upto_if 58 with fail
        go_cut [7, 49] from 49 to 187 (fun lv i w' => PlMid k w (.pointer (some ⟨g, 0, none⟩)) s lv i w')
        case first =>
          by_cases hd : o.d < 2
          · have hd' : (o.d : Int) < 2 := by omega
            clear hd
            go_wp2_with fail
            refine (refhear_calls _ ra rn rc L o.node o.now o.life (RA.out _) Rl.out Ho.out.2.1 Ho.out.2.2.1 Ho.out.2.2.2).mono ?_
            rintro e w5 ⟨a5, n5, c5, rfl, hn5, hr5, hb5, ha5⟩
            have B5 := hid ((BA.out _).below hb5)
            have R5 := hid hr5
            have N5 := hid hn5
            have W5 := hid ((WA.out _).trans (hb5.mono (WA.out _).size))
            have Bo5 := Bl0.out.below hb5
            have q1 := Bo5.get 1 rfl
            have q2 := Bo5.get 2 rfl
            have q3 := Bo5.get 3 rfl
            have Sz := hid hb5.size
            have A5 := hid ha5
            clear hb5 hr5 hn5 ha5 Bo5
            go_wp2_with fail
            refine (hear_bk w5 _ _ s L o.node o.now o.life B5.out Ho.out.2.1 Ho.out.2.2.1 Ho.out.2.2.2).mono ?_
            rintro e w6 ⟨rfl, hB, hc⟩
            have Pn := hid (Pl.step hB hc R5.out N5.out (by
              rcases Lt.out with h0 | h0
              · exact .inl (nil_of_len (hearN_length L _ _ _) h0)
              · rcases Sp.out with h1 | h1
                · exact .inl (nil_of_len (hearN_length L _ _ _) h1)
                · right
                  intro x hx
                  rcases A5.out with h2 | h2
                  · exact h1 x (by rw [← h2]; exact hx)
                  · have := h2 x hx
                    rw [Zo.out] at this
                    omega) W5.out Old.out (Lt.out.imp (nil_of_len (hearN_length L _ _ _)) fun h => by have := Sz.out; rw [Zo.out] at this; omega))
            clear hB hc
            go_wp2_with fail
            go_meet
            case rel => exact ⟨_, rfl, Pn.out⟩
          · have hd' : ¬ ((o.d : Int) < 2) := by omega
            clear hd
            have hlen := tickN_length L 0 o.now
            have hok := hid (fun (n : Nd) (hn : n ∈ (tickN L 0 o.now).1) => tickN_ok L 0 o.now R.out.ok Ho.out.2.2.1 n hn)
            generalize hr : tickN L 0 o.now = r at hlen hok
            obtain ⟨L2, gs, ws⟩ := r
            dsimp only at hlen hok
            have Hr := hid hr
            have Hlen := hid hlen
            clear hr hlen
            go_wp2_with fail
            refine (reftick_calls _ ra rn rc L o.now (RA.out _) Rl.out Ho.out.2.2.1).mono ?_
            rw [Hr.out]
            rintro e w5 ⟨ov, gv, av, rfl, hT⟩
            obtain ⟨oa, on, oc, rfl, hon, hoc, hocs⟩ := hT.o.cs
            obtain ⟨xa, xn, xc, rfl, hxn, _, hxcs⟩ := hT.g.cs
            obtain ⟨ya, yn, yc, rfl, hyn, _, hycs⟩ := hT.a.cs
            have R5 : Kept (RN w5 oa oc L2) := ⟨⟨hocs, by rw [hon]; exact hoc, hok.out, by rw [Hlen.out]; exact R.out.small⟩⟩
            have B5 := hid ((BA.out _).below hT.b)
            have W5 := hid ((WA.out _).trans (hT.b.mono (WA.out _).size))
            have Bo5 := Bl0.out.below hT.b
            have q2 := Bo5.get 2 rfl
            have Sz := hid hT.b.size
            have Oo : Kept (∀ x, oa = some x → wo.heap.size + 1 ≤ x.block) := ⟨fun x hx => by subst hx; have := (hT.o.ownBlock x.block rfl).1; rw [Zo.out] at this; omega⟩
            have Og : Kept (∀ x, xa = some x → wo.heap.size + 1 ≤ x.block) := ⟨fun x hx => by subst hx; have := (hT.g.ownBlock x.block rfl).1; rw [Zo.out] at this; omega⟩
            have Oa : Kept (∀ x, ya = some x → wo.heap.size + 1 ≤ x.block) := ⟨fun x hx => by subst hx; have := (hT.a.ownBlock x.block rfl).1; rw [Zo.out] at this; omega⟩
            have X5 := hid hxcs
            have Y5 := hid hycs
            have On := hid hon
            subst hxn hyn
            clear hT hoc hocs hxcs hycs hon Bo5
            go_wp2_with fail
            refine (tick_bk w5 _ _ s L o.now B5.out Ho.out.2.2.1 Hr.out).mono ?_
            rintro e w6 ⟨ga, gc, aa, ac, rfl, hg, ha, hB, hc⟩
            have Pn := hid (Pl.step hB hc R5.out On.out (by
              rcases Lt.out with h0 | h0
              · exact .inl (nil_of_len Hlen.out h0)
              · right
                intro x hx
                have := Oo.out x hx
                omega) W5.out Old.out (Lt.out.imp (nil_of_len Hlen.out) fun h => by have := Sz.out; rw [Zo.out] at this; omega))
            have hs' : Kept (s ≤ wo.heap.size ∨ L = []) := ⟨by rcases Lt.out with h | h; exact .inr h; exact .inl (by omega)⟩
            have X6 : Kept (CS w6 xa xc 2 (gs.flatMap grV)) := ⟨by
              rcases Lt.out with h0 | h0
              · have e0 : gs = [] := by have := Hr.out; rw [h0] at this; cases this; rfl
                rw [e0]; exact ⟨by simp, X5.out.max, X5.out.none, .inl rfl⟩
              · exact X5.out.chg hc (fun x hx hm => by have := Og.out x hx; simp at hm; omega)⟩
            have Y6 : Kept (CS w6 ya yc 1 (ws.flatMap inV)) := ⟨by
              rcases Lt.out with h0 | h0
              · have e0 : ws = [] := by have := Hr.out; rw [h0] at this; cases this; rfl
                rw [e0]; exact ⟨by simp, Y5.out.max, Y5.out.none, .inl rfl⟩
              · exact Y5.out.chg hc (fun x hx hm => by have := Oa.out x hx; simp at hm; omega)⟩
            have G6 := hid hg
            have A6 := hid ha
            have lg : (gs.length : Int) ≤ 1000 := by have h1 := (tickN_le L 0 o.now).1; rw [Hr.out] at h1; have := R.out.small; dsimp only at h1; omega
            have la : (ws.length : Int) ≤ 1000 := by have h1 := (tickN_le L 0 o.now).2; rw [Hr.out] at h1; have := R.out.small; dsimp only at h1; omega
            clear hB hc hg ha
            go_wp2_with fail
            go_loopw [121] (fun i wr => PlRel2 gs.length w6 i wr) (fun i _ => gs.length - (intOf i).toNat)
            case atStart => exact ⟨0, 0, rfl, Nat.zero_le _, rfl⟩
            case round =>
              obtain ⟨q, m, rfl, hq, rfl⟩ := hrel
              by_cases hqg : q < gs.length
              · have hqg' : (q : Int) < (gs.length : Int) := by omega
                obtain ⟨b1, o1, rfl, y0, y1⟩ := gr_at G6.out hqg
                obtain ⟨b2, o2, rfl, z0, z1⟩ := gr_at X6.out hqg
                generalize gs[q] = x at y0 y1 z0 z1
                go_wp2_with fail
                go_quiet (fail)
                go_wp2_with fail
                have RR : PlRel2 gs.length w6 (.int .i64 ((q : Int) + 1)) (w6.drewN (m + nq)) := ⟨q + 1, m + nq, by go_num, by omega, rfl⟩
                refine ⟨?_, by simp [intOf]; omega⟩
                first | exact RR | ((repeat apply Exists.intro); refine ⟨RR, ?_⟩; and_intros <;> rfl)
              · have hqg' : ¬ ((q : Int) < (gs.length : Int)) := by omega
                have A7 := hid (A6.out.below (below_drewN (Below.refl _ w6) m))
                have Y7 := hid (Y6.out.below (below_drewN (Below.refl _ w6) m))
                have P7 := hid (Pn.out.later (below_drewN (Below.refl _ w6) m))
                go_wp2_with fail
                generalize w6.drewN m = w7 at A7 Y7 P7 ⊢
                go_loopw [136] (fun i wr => PlRel2 ws.length w7 i wr) (fun i _ => ws.length - (intOf i).toNat)
                case atStart => exact ⟨0, 0, rfl, Nat.zero_le _, rfl⟩
                case round =>
                  obtain ⟨p, m2, rfl, hp, rfl⟩ := hrel
                  by_cases hpg : p < ws.length
                  · have hpg' : (p : Int) < (ws.length : Int) := by omega
                    obtain ⟨b1, o1, rfl, hc1⟩ := cs_row inV_length A7.out hpg (by decide)
                    obtain ⟨b2, o2, rfl, hc2⟩ := cs_row inV_length Y7.out hpg (by decide)
                    have y0 := hc1 0 _ rfl
                    have z0 := hc2 0 _ rfl
                    clear hc1 hc2
                    rw [Nat.add_zero, Nat.mul_one] at y0 z0
                    generalize ws[p] = x at y0 z0
                    go_wp2_with fail
                    go_quiet (fail)
                    go_wp2_with fail
                    have RR : PlRel2 ws.length w7 (.int .i64 ((p : Int) + 1)) (w7.drewN (m2 + nq)) := ⟨p + 1, m2 + nq, by go_num, by omega, rfl⟩
                    refine ⟨?_, by simp [intOf]; omega⟩
                    first | exact RR | ((repeat apply Exists.intro); refine ⟨RR, ?_⟩; and_intros <;> rfl)
                  · have hpg' : ¬ ((p : Int) < (ws.length : Int)) := by omega
                    have P8 := hid (P7.out.later (below_drewN (Below.refl _ w7) m2))
                    go_wp2_with fail
                    go_meet
                    case rel => exact ⟨_, rfl, P8.out⟩
        case rest =>
          obtain ⟨L2, rfl, hP⟩ := hcut
          have P := hid hP
          clear hP
          obtain ⟨a2, n2, c2, rfl, hn2, hR2, hs2⟩ := P.out.rn
          have N2 := hid hn2
          have R2 := hid hR2
          have h16 : (n2 : Int) ≤ 16 := by have := hR2.small; omega
          clear hn2 hR2 hs2
          go_wp2_with fail
          go_loopw [23] (fun i wr => PlRel4 w (.pointer (some ⟨g, 0, none⟩)) s (.slice a2 n2 c2) L2 i wr) (fun i _ => (18 - intOf i).toNat)
          case atStart => exact ⟨0, rfl, by omega, P.out⟩
          case round =>
            clear P
            obtain ⟨q, rfl, hq, hP⟩ := hrel
            obtain ⟨a3, n3, c3, e3, hn3, hR3, _⟩ := hP.rn
            cases e3
            have R3 := hid hR3
            have P := hid hP
            clear hP hn3 hR3
            have PA := hid (fun X => P.out.later (below_alloc wr X))
            by_cases hq17 : q ≤ 17
            · have hq17' : (q : Int) - 1 ≤ 16 := by omega
              have RRf : Kept (∀ (X : Obj) (m : Nat), PlRel4 w (.pointer (some ⟨g, 0, none⟩)) s (.slice a2 n2 c2) L2 (.int .i64 (q : Int)) ((wr.alloc X).drewN m)) := ⟨fun X m => ⟨q + 1, by congr 1; omega, by omega, (PA.out X).later (below_drewN (Below.refl _ _) m)⟩⟩
              by_cases hin : 1 ≤ q ∧ q ≤ n2
              · obtain ⟨p, rfl⟩ : ∃ p, q = p + 1 := ⟨q - 1, by omega⟩
                have hpl : p < L2.length := by rw [N2.out]; omega
                have hp1 : (p : Int) < (n2 : Int) := by omega
                have hp2 : (p : Int) ≤ 16 := by omega
                have ei : (((p + 1 : Nat) : Int) - 1) = (p : Int) := by omega
                rw [ei]
                rw [show (((p + 1 : Nat)) : Int) = (p : Int) + 1 from by omega] at RRf
                obtain ⟨b3, o3, e3, hc⟩ := cs_row ndV_length R3.out.row hpl (by decide)
                subst e3
                have z0 := hc 0 _ rfl
                have z1 := hc 1 _ rfl
                have z2 := hc 2 _ rfl
                have z3 := hc 3 _ rfl
                rw [Nat.add_zero] at z0
                replace z0 := fun X => cell_later (below_alloc wr X) z0
                replace z1 := fun X => cell_later (below_alloc wr X) z1
                replace z2 := fun X => cell_later (below_alloc wr X) z2
                replace z3 := fun X => cell_later (below_alloc wr X) z3
                clear hc
                have en : nodeAt L2 (p : Int) = L2[p] := by
                  unfold nodeAt
                  rw [if_neg (by have := N2.out; omega), Int.toNat_natCast, List.getD_eq_getElem?_getD, List.getElem?_eq_getElem hpl]; rfl
                have s1 := fun X n => state_bk (wr.alloc X) _ _ s L2 (p : Int) (PA.out X).bk (by omega) n
                have s2 := fun X n => life_bk (wr.alloc X) _ _ s L2 (p : Int) (PA.out X).bk (by omega) n
                have s3 := fun X n => until_bk (wr.alloc X) _ _ s L2 (p : Int) (PA.out X).bk (by omega) n
                rw [en] at s1 s2 s3
                generalize L2[p] = x at z0 z1 z2 z3 s1 s2 s3
                have S1 := hid s1
                have S2 := hid s2
                have S3 := hid s3
                clear en s1 s2 s3 ei hin hq hq17 hq17'
                go_wp2_with fail
                go_quiet (first | exact S1.out _ _ | exact S2.out _ _ | exact S3.out _ _)
                go_wp2_with fail
                have RR := RRf.out (.cells (ndV x).toArray 52) nq
                refine ⟨?_, by simp [intOf]; omega⟩
                first | exact RR | ((repeat apply Exists.intro); refine ⟨RR, ?_⟩; and_intros <;> rfl)
              · have en : nodeAt L2 ((q : Int) - 1) = zero := by
                  unfold nodeAt
                  rw [if_pos (by have := N2.out; omega)]
                have s1 := fun X n => state_bk (wr.alloc X) _ _ s L2 ((q : Int) - 1) (PA.out X).bk (by omega) n
                have s2 := fun X n => life_bk (wr.alloc X) _ _ s L2 ((q : Int) - 1) (PA.out X).bk (by omega) n
                have s3 := fun X n => until_bk (wr.alloc X) _ _ s L2 ((q : Int) - 1) (PA.out X).bk (by omega) n
                rw [en] at s1 s2 s3
                rw [show ((zero.st : Nat) : Int) = 0 from rfl] at s1
                rw [show ((zero.life : Nat) : Int) = 0 from rfl] at s2
                rw [show ((zero.until' : Nat) : Int) = 0 from rfl] at s3
                have S1 := hid s1
                have S2 := hid s2
                have S3 := hid s3
                clear en s1 s2 s3
                by_cases q0 : q = 0
                · have hk0 : ¬ (0 ≤ (q : Int) - 1) := by omega
                  clear q0 hin
                  go_wp2_with fail
                  go_quiet (first | exact S1.out _ _ | exact S2.out _ _ | exact S3.out _ _)
                  go_wp2_with fail
                  have RR := RRf.out (.cells (ndV zero).toArray 52) nq
                  refine ⟨?_, by simp [intOf]; omega⟩
                  first | exact RR | ((repeat apply Exists.intro); refine ⟨RR, ?_⟩; and_intros <;> rfl)
                · have hk0 : 0 ≤ (q : Int) - 1 := by omega
                  have hk1 : ¬ ((q : Int) - 1 < (n2 : Int)) := by omega
                  clear q0 hin
                  go_wp2_with fail
                  go_quiet (first | exact S1.out _ _ | exact S2.out _ _ | exact S3.out _ _)
                  go_wp2_with fail
                  have RR := RRf.out (.cells (ndV zero).toArray 52) nq
                  refine ⟨?_, by simp [intOf]; omega⟩
                  first | exact RR | ((repeat apply Exists.intro); refine ⟨RR, ?_⟩; and_intros <;> rfl)
            · have hq17' : ¬ ((q : Int) - 1 ≤ 16) := by omega
              go_wp2_with fail
              have RR : PlRel l.length w (.pointer (some ⟨g, 0, none⟩)) s (.slice a2 n2 c2) (.int .i64 ((k : Int) + 1)) wr := ⟨k + 1, L2, by go_num, by have := Hk.out; omega, P.out⟩
              refine ⟨?_, by simp [intOf]; have := Hk.out; omega⟩
              first | exact RR | ((repeat apply Exists.intro); refine ⟨RR, ?_⟩; and_intros <;> rfl)
      · by_cases hkl : k < l.length
        · obtain ⟨bo, off, rfl, hc⟩ := cs_row opV_length Hcs.out hkl (by decide)
          have d0 := cell_later Bw.out (hc 0 _ rfl)
          have d1 := cell_later Bw.out (hc 1 _ rfl)
          have d2 := cell_later Bw.out (hc 2 _ rfl)
          have d3 := cell_later Bw.out (hc 3 _ rfl)
          clear hc
          generalize l[k] = o at d0 d1 d2 d3
          have hkl' : (k : Int) < (l.length : Int) := by omega
          have h60' : (100 : Int) ≤ (k : Int) := by omega
          rw [Nat.add_zero] at d0
          go_wp2_with fail
          go_ret
          exact ⟨rfl, Bw.out.trans ((below_alloc _ _).mono Bw.out.size)⟩
        · have hkl' : ¬ ((k : Int) < (l.length : Int)) := by omega
          go_wp2_with fail
          go_ret
          exact ⟨rfl, Bw.out⟩
end Go.Proofs.Ytolgfemjpkgloaa
