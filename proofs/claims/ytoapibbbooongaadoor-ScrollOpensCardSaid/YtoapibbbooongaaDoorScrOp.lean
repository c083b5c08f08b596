/- An opening after another: plain, and in a law that has the document's slab beside. -/
import Derived.Test.YtoapibbbooongaaDoorScrAl
namespace Go.Proofs.YtoapibbbooongaaDoor
open Go.RowKit Go.Quad _root_.Quad _root_.Quad.Slab _root_.Quad.Ink

theorem quiet_writeL {s : Sl} {k : Nat} {t : Bytes} (h : Quiet s) (hk : k < s.done.length) (ht : t.length ≤ 128) :
    ∃ s', writeL s (k : Int) t = (s', 0) ∧ Quiet s' ∧ s'.done = s.done ∧ s'.steps = s.steps + 1 ∧ s'.way.length = s.way.length + 1 := by
  obtain ⟨q1, q2⟩ := step_quiet h.arm
  have e : writeL s (k : Int) t = ({ stepL s with way := s.way ++ [(k, pad t)] }, 0) := by
    unfold writeL
    rw [if_neg (by rw [hasL_zero hk ht h.on]; simp), Int.toNat_natCast, q1, h.on]
    rfl
  refine ⟨_, e, ⟨by rw [← h.on, ← q1], q2, fun w hw => ?_⟩, rfl, rfl, by simp⟩
  rcases List.mem_append.1 hw with hw | hw
  · exact h.way w hw
  · rw [List.mem_singleton] at hw; subst hw; exact hk
theorem readGo_same {G G' : Nat → BlkD × Nat} {gen : Nat} : ∀ (n a : Nat) (q : Rd), (∀ i, a ≤ i → i < a + n → G i = G' i) → readGo G gen n a q = readGo G' gen n a q
  | 0, _, _, _ => rfl
  | n + 1, a, q, h => by
    have h0 := h a (Nat.le_refl _) (by omega)
    have hs : stepRd G gen a q = stepRd G' gen a q := by unfold stepRd goodA; rw [h0]
    unfold readGo
    rw [hs]
    cases stepRd G' gen a q with
    | none => rfl
    | some q' => exact readGo_same n (a + 1) q' fun i h1 h2 => h i (by omega) (by omega)
theorem readS_same {s s' : Sl} {size : Nat} {r r' : RootD} (hg : r'.gen = r.gen) (ha : r'.area = r.area) (h : ∀ i, i < size → seeA s' size r.area i = seeA s size r.area i) : readS s' size r' = readS s size r := by
  unfold readS readG
  rw [hg, ha]
  exact readGo_same size 0 _ fun i _ hi => h i (by omega)
theorem opens_twice {s : Sl} {z : Nat} (q : Quiet s) (hl : 2 + 2 * z ≤ s.done.length) (hz : 1 ≤ z ∧ z ≤ 4096) :
    (∃ s1 e, openS s (z : Int) = (s1, none, e) ∧ e ≠ 0 ∧ s1.steps ≤ s.steps + 2) ∨
    (∃ s1 c, openS s (z : Int) = (s1, some c, 0) ∧ s1.steps ≤ s.steps + 2 ∧ s1.way = [] ∧ s1.done.length = s.done.length ∧ c.sl = s1 ∧ c.root.epoch < 4294967296 ∧
      ((openS s1 (z : Int) = (s1, none, 8)) ∨ (∃ s2 c2, openS s1 (z : Int) = (s2, some c2, 0) ∧ c2.snap = c.snap ∧ c2.recs = c.recs ∧ c2.next = c.next ∧ c2.size = c.size ∧ c2.root.epoch = c.root.epoch + 1 ∧ c2.root.epoch < 4294967296))) := by
  have hfit : ∀ s' : Sl, s'.done.length = s.done.length → fitsS s' (z : Int) = 0 := fun s' h => by
    unfold fitsS
    rw [if_neg (by omega)]
  obtain ⟨⟨r, e0⟩, hL⟩ : ∃ L, loadB s = L := ⟨_, rfl⟩
  by_cases h0 : e0 = 0
  case neg => exact .inl ⟨s, e0, by unfold openS; rw [hfit s rfl, if_neg (by simp), hL, if_pos (by simpa using h0)], h0, by omega⟩
  subst h0
  by_cases h1 : (readS s z r).out.length = 0
  · exact .inl ⟨s, 4, by unfold openS; rw [hfit s rfl, if_neg (by simp), hL, if_neg (by simp), Int.toNat_natCast, if_pos h1], by simp, by omega⟩
  by_cases h2 : r.epoch = 4294967295 ∨ r.turn = 4294967295
  · exact .inl ⟨s, 8, by unfold openS; rw [hfit s rfl, if_neg (by simp), hL, if_neg (by simp), Int.toNat_natCast, if_neg h1, if_pos h2], by simp, by omega⟩
  obtain ⟨hok, har⟩ := loadB_ok hL
  have next : ∀ {s' : Sl} {r' : RootD}, Quiet s' → s'.done.length = s.done.length → loadB s' = (r', 0) → readS s' z r' = readS s z r → ¬ (r'.epoch = 4294967295 ∨ r'.turn = 4294967295) →
      ∃ s1, openS s' (z : Int) = (s1, some ⟨s1, z, nextR r', (readS s z r).next, ((readS s z r).out.headD []).headD [], ((readS s z r).out.drop 1).flatten, false⟩, 0) ∧ Quiet s1 ∧ s1.way = [] ∧ s1.done.length = s.done.length ∧ s1.steps = s'.steps + 2 ∧ loadB s1 = (nextR r', 0) ∧ readS s1 z (nextR r') = readS s z r ∧ (nextR r').epoch < 4294967296 := by
    intro s' r' q' hd hl' hrd hb
    obtain ⟨hok', har'⟩ := loadB_ok hl'
    have hno : (nextR r').Ok := ⟨by show r'.turn + 1 < _; have := hok'.turn; omega, by show r'.epoch + 1 < _; have := hok'.epoch; omega, hok'.gen, hok'.area⟩
    obtain ⟨s1, e1, q1, w1, d1, t1, l1, v1, _⟩ := store_next q' (by omega) hl' (r' := nextR r') rfl hno har'
    have hsame : readS s1 z (nextR r') = readS s' z r' := readS_same rfl rfl fun i hi => by
      have hk := area_lt har' hi (show 2 + 2 * z ≤ s'.done.length by omega)
      exact see_keep q' q1 d1 hk.1 (v1 _ (by have : (nextR r').turn % 2 < 2 := Nat.mod_lt _ (by omega); omega) hk.1)
    refine ⟨s1, ?_, q1, w1, d1.trans hd, t1, l1, hsame.trans hrd, hno.epoch⟩
    unfold openS
    rw [hfit s' hd, if_neg (by simp), hl', if_neg (by simp), Int.toNat_natCast, hrd, if_neg h1, if_neg hb, e1, if_neg (by simp)]
  obtain ⟨s1, o1, q1, w1, d1, t1, l1, r1, p1⟩ := next q rfl hL rfl h2
  refine .inr ⟨s1, _, o1, by omega, w1, d1, rfl, p1, ?_⟩
  by_cases h3 : (nextR r).epoch = 4294967295 ∨ (nextR r).turn = 4294967295
  · exact .inl (by unfold openS; rw [hfit s1 d1, if_neg (by simp), l1, if_neg (by simp), Int.toNat_natCast, r1, if_neg h1, if_pos h3])
  · obtain ⟨s2, o2, _, _, _, _, _, _, p2⟩ := next q1 d1 l1 r1 h3
    exact .inr ⟨s2, _, o2, rfl, rfl, rfl, rfl, rfl, p2⟩
theorem ScAt.chg {S : List Nat} {w w' : World} {B g d : Nat} {wv : Value} {q : Nat} {Q : Nat → Prop} {sv rv : Value} {ts : List TS} {c : Scr} (h : ScAt w B g d wv q Q sv rv ts c) (hc : Chg S w w') (hS : ∀ k ∈ S, k ∉ scS g d wv q rv ∧ ¬ Q k) : ScAt w' B g d wv q Q sv rv ts c :=
  ⟨h.slab.chg hc fun k hk hm => (hS k hk).1 (by unfold scS; exact List.mem_append_left _ hm), h.scr.keep hc fun k hk => ⟨fun e => (hS k hk).1 (by unfold scS; rw [e]; simp), (hS k hk).2, fun e => (hS k hk).1 (by unfold scS; simp [e])⟩, h.apart⟩
/-- opened, the document's slab beside -/
def PlO (wn : World) (B2 g d g2 dn dc : Nat) (x : Sl × Option Scr × Nat) (s2 : Sl) (e : Ending) (w' : World) : Prop := match x.2.1 with
  | none => e = .returned (.tuple #[.pointer none, .int .i64 (x.2.2 : Int)]) ∧ Pl wn B2 g d g2 dn dc [] x.1 s2 w'
  | some c => ∃ q, e = .returned (.tuple #[.pointer (some ⟨q, 0, none⟩), .int .i64 0]) ∧ ∃ wv' F wv2 Q sv rv ts, ScAt w' wn.heap.size g d wv' q Q sv rv ts c ∧ IsRf w' F B2 g2 dn dc wv2 s2 ∧ (∀ k, F k → k ∉ scS g d wv' q rv ∧ ¬ Q k) ∧ Below wn.heap.size wn w' ∧ wn.heap.size ≤ B2
theorem pl_sopen (wn w : World) (B2 g d g2 dn dc : Nat) (s1 s2 : Sl) (size : Int) (h : Pl wn B2 g d g2 dn dc [] s1 s2 w) (hz : -9223372036854775808 ≤ size ∧ size ≤ 9223372036854775807) (hl : s1.done.length ≤ 100000) (hq : Laid wn) (hst : s1.steps + 10 < 1000000) (hw : s1.way.length + 10 < 1000000) :
    Calls Tryd.prog 29 #[.pointer (some ⟨g, 0, none⟩), .int .i64 size] w (PlO wn B2 g d g2 dn dc (openS s1 size) s2) := by
  obtain ⟨wv, F, wv2, h1, h2, h3, _⟩ := h.ex
  refine (sopen_calls w wn.heap.size g d wv s1 size h1 hz hl (hq.below h.bel hq.1) hq.1 hst hw).mono fun e w' ht => ?_
  obtain ⟨wv', hc, hin, ht⟩ := ht
  have hb' : Below wn.heap.size wn w' := h.bel.trans (hc.below h.bel.size fun k hk => (h1.in_ge k hk).1)
  have h2' := h2.keep hc fun k hk => h3 k hk
  have hsl : ∀ k ∈ slS g d wv', ¬ F k := fun k hk hf => by
    rcases hin k hk with hh | hh
    · exact h3 k hh hf
    · have := (h2.lt k hf).2; omega
  unfold PlO
  cases ho : (openS s1 size).2.1 with
  | none =>
    rw [ho] at ht
    exact ⟨ht.1, ⟨wv', F, wv2, ht.2, h2', hsl, by simp⟩, hb', h.b2⟩
  | some c =>
    rw [ho] at ht
    obtain ⟨q, Q, sv, rv, ts, e1, q4, q5, q6, q7⟩ := ht
    refine ⟨q, e1, wv', F, wv2, Q, sv, rv, ts, q4, h2', fun k hf => ⟨fun hm => ?_, fun hQ => ?_⟩, hb', h.b2⟩
    · have := (h2.lt k hf).2
      rcases scS_mem hm with hm | hm | hm
      · exact hsl k hm hf
      · omega
      · have := q7 k hm; omega
    · have := (h2.lt k hf).2; have := q6 k hQ; omega
/-- opened once more: the first one's memory stays -/
theorem lsc_reopen (w0 w : World) (X : Nat → Prop) (g q : Nat) (c : Scr) (size : Int) (h : LSc w0 X g q c w) (hz : -9223372036854775808 ≤ size ∧ size ≤ 9223372036854775807) (hl : c.sl.done.length ≤ 100000) (hq : Laid w0) (hst : c.sl.steps + 10 < 1000000) (hw : c.sl.way.length + 10 < 1000000) :
    Calls Tryd.prog 29 #[.pointer (some ⟨g, 0, none⟩), .int .i64 size] w fun e w' => Below w0.heap.size w0 w' ∧ (∃ Q sv rv ts, IsScr w' w0.heap.size g q Q sv rv ts c) ∧ match (openS c.sl size).2.1 with
      | none => e = .returned (.tuple #[.pointer none, .int .i64 ((openS c.sl size).2.2 : Int)])
      | some c2 => ∃ q2, e = .returned (.tuple #[.pointer (some ⟨q2, 0, none⟩), .int .i64 0]) ∧ LSc w0 (fun _ => False) g q2 c2 w' := by
  obtain ⟨h1, h2, d, wv, Q, sv, rv, ts, h3, h4⟩ := h
  refine (sopen_calls w w0.heap.size g d wv c.sl size h3.slab hz hl (hq.below h1 hq.1) hq.1 hst hw).mono fun e w' ht => ?_
  obtain ⟨wv', hc, hin, ht⟩ := ht
  have hb' : Below w0.heap.size w0 w' := h1.trans (hc.below h1.size fun k hk => (h3.slab.in_ge k hk).1)
  refine ⟨hb', ⟨Q, sv, rv, ts, h3.scr.keep hc h3.apart⟩, ?_⟩
  cases ho : (openS c.sl size).2.1 with
  | none =>
    rw [ho] at ht
    exact ht.1
  | some c2 =>
    rw [ho] at ht
    obtain ⟨q2, Q2, sv2, rv2, ts2, e1, q4, q5, q6, q7⟩ := ht
    exact ⟨q2, e1, hb', fun _ h => h.elim, d, wv', Q2, sv2, rv2, ts2, q4, fun _ h => h.elim⟩
end Go.Proofs.YtoapibbbooongaaDoor
