/- SlabOthers: a slab, and what each sector may have, in memory. -/
import Derived.Test.YtoegnlabneafkaaPlA
import Derived.Test.YtoegnlabneafkaaSlabOps
import Derived.Test.YtoegnlabneafkaaOthMath
namespace Go.Proofs.Ytoegnlabneafkaa
open Go.RowKit Go.Quad _root_.Quad.Slab

/-! a slab, and blocks of the walk's own beside it -/
def SX (w0 : World) (g : Nat) (s : Sl) (X : List Nat) (w : World) : Prop :=
  (∃ d wv, IsSlab w w0.heap.size g d wv s ∧ ∀ x ∈ X, (w0.heap.size ≤ x ∧ x < w.heap.size) ∧ x ∉ slS g d wv) ∧ Below w0.heap.size w0 w
theorem SX.below {w0 w w' : World} {g : Nat} {s : Sl} {X : List Nat} (h : SX w0 g s X w) (hb : Below w.heap.size w w') : SX w0 g s X w' := by
  obtain ⟨⟨d, wv, h1, h3⟩, h2⟩ := h
  exact ⟨⟨d, wv, h1.below hb, fun x hx => ⟨⟨(h3 x hx).1.1, Nat.lt_of_lt_of_le (h3 x hx).1.2 hb.size⟩, (h3 x hx).2⟩⟩, h2.trans (hb.mono h2.size)⟩
theorem SX.more {w0 w w' : World} {g : Nat} {s : Sl} {X L : List Nat} (h : SX w0 g s X w) (hb : Below w.heap.size w w') (hL : ∀ x ∈ L, w.heap.size ≤ x ∧ x < w'.heap.size) : SX w0 g s (X ++ L) w' := by
  have q := h.2.size
  obtain ⟨⟨d, wv, h1, h3⟩, h2⟩ := h
  refine ⟨⟨d, wv, h1.below hb, fun x hx => ?_⟩, h2.trans (hb.mono h2.size)⟩
  rcases List.mem_append.1 hx with hx | hx
  · exact ⟨⟨(h3 x hx).1.1, Nat.lt_of_lt_of_le (h3 x hx).1.2 hb.size⟩, (h3 x hx).2⟩
  · exact ⟨⟨Nat.le_trans q (hL x hx).1, (hL x hx).2⟩, fun hm => by have := (h1.in_ge _ hm).2; have := (hL x hx).1; omega⟩
theorem SX.less {w0 w : World} {g : Nat} {s : Sl} {X Y : List Nat} (h : SX w0 g s X w) (hY : ∀ y ∈ Y, y ∈ X) : SX w0 g s Y w := by
  obtain ⟨⟨d, wv, h1, h3⟩, h2⟩ := h
  exact ⟨⟨d, wv, h1, fun x hx => h3 x (hY x hx)⟩, h2⟩
theorem SX.chg {w0 w w' : World} {g : Nat} {s : Sl} {X S : List Nat} (h : SX w0 g s X w) (hc : Chg S w w') (hS : ∀ x ∈ S, x ∈ X) : SX w0 g s X w' := by
  obtain ⟨⟨d, wv, h1, h3⟩, h2⟩ := h
  exact ⟨⟨d, wv, h1.chg hc (fun k hk => (h3 k (hS k hk)).2), fun x hx => ⟨⟨(h3 x hx).1.1, Nat.lt_of_lt_of_le (h3 x hx).1.2 hc.size⟩, (h3 x hx).2⟩⟩, h2.trans (hc.below h2.size fun k hk => (h3 k (hS k hk)).1.1)⟩
theorem SX.grow {w0 w w' : World} {g : Nat} {s : Sl} {X S L : List Nat} (h : SX w0 g s X w) (hc : Chg S w w') (hS : ∀ x ∈ S, x ∈ X) (hL : ∀ x ∈ L, x ∈ X ∨ (w.heap.size ≤ x ∧ x < w'.heap.size)) : SX w0 g s (X ++ L) w' := by
  have q := h.2.size
  obtain ⟨⟨d, wv, h1, h3⟩, h2⟩ := h
  have old : ∀ x ∈ X, (w0.heap.size ≤ x ∧ x < w'.heap.size) ∧ x ∉ slS g d wv := fun x hx => ⟨⟨(h3 x hx).1.1, Nat.lt_of_lt_of_le (h3 x hx).1.2 hc.size⟩, (h3 x hx).2⟩
  refine ⟨⟨d, wv, h1.chg hc (fun k hk => (h3 k (hS k hk)).2), fun x hx => ?_⟩, h2.trans (hc.below h2.size fun k hk => (h3 k (hS k hk)).1.1)⟩
  rcases List.mem_append.1 hx with hx | hx
  · exact old x hx
  · rcases hL x hx with hx | hx
    · exact old x hx
    · exact ⟨⟨Nat.le_trans q hx.1, hx.2⟩, fun hm => by have := (h1.in_ge _ hm).2; omega⟩
theorem SX.lt {w0 w : World} {g : Nat} {s : Sl} {X : List Nat} (h : SX w0 g s X w) : ∀ k ∈ X, k < w.heap.size := by
  obtain ⟨⟨d, wv, h1, h3⟩, h2⟩ := h
  exact fun k hk => (h3 k hk).1.2
theorem SX.keep {w0 w w' : World} {g : Nat} {s : Sl} {X : List Nat} (h : SX w0 g s X w) (hb : Below w.heap.size w w') : XKeep X w w' := by
  obtain ⟨⟨d, wv, h1, h3⟩, h2⟩ := h
  exact fun x hx => hb.block x (h3 x hx).1.2
theorem SX.to {w0 w w' : World} {g d r : Nat} {wv : Value} {s s' : Sl} {X : List Nat} {e : Ending} (h1 : IsSlab w w0.heap.size g d wv s) (h3 : ∀ x ∈ X, (w0.heap.size ≤ x ∧ x < w.heap.size) ∧ x ∉ slS g d wv) (hb : Below w0.heap.size w0 w)
    (ht : SlabTo w w0.heap.size g d wv s' r e w') : e = .returned (.int .i64 (r : Int)) ∧ SX w0 g s' X w' ∧ XKeep X w w' := by
  obtain ⟨wv', rfl, q1, q2, q3⟩ := ht
  refine ⟨rfl, ⟨⟨d, wv', q1, fun x hx => ⟨⟨(h3 x hx).1.1, Nat.lt_of_lt_of_le (h3 x hx).1.2 q2.size⟩, fun hm => ?_⟩⟩, hb.trans (q2.below hb.size fun k hk => (h1.in_ge k hk).1)⟩, XKeep.of_chg q2 fun x hx => ⟨(h3 x hx).1.2, (h3 x hx).2⟩⟩
  simp only [slS, List.mem_cons] at hm
  rcases hm with rfl | rfl | hm
  · exact (h3 _ hx).2 (by simp [slS])
  · exact (h3 _ hx).2 (by simp [slS])
  · rcases q3 x (by simpa using hm) with h | h
    · exact (h3 _ hx).2 h
    · have := (h3 x hx).1.2; omega
def SxTo (w0 : World) (g : Nat) (X : List Nat) (w : World) (p : Sl × Nat) (e : Ending) (w' : World) : Prop := e = .returned (.int .i64 (p.2 : Int)) ∧ SX w0 g p.1 X w' ∧ XKeep X w w'
theorem sx_write (w0 w : World) (g : Nat) (s : Sl) (X : List Nat) (i : Int) (a : Option Addr) (n cap : Nat) (t : List UInt8) (h : SX w0 g s X w) (hi : -9223372036854775808 ≤ i ∧ i ≤ 9223372036854775807) (ht : BS w a cap t) (hn : t.length = n) (hs : s.steps < 1000000) (hw : s.way.length < 1000000) (hoff : t = [] ∨ ∀ x, a = some x → x.block ∈ X) :
    Calls Try.prog 10 #[.pointer (some ⟨g, 0, none⟩), .int .i64 i, .slice a n cap] w (SxTo w0 g X w (writeL s i t)) := by
  subst hn
  obtain ⟨⟨d, wv, h1, h3⟩, h2⟩ := h
  exact (write_any w w0.heap.size g d wv s i a cap t h1 hi ht hs hw (hoff.imp id fun ho x hx => (h3 _ (ho x hx)).2)).mono fun e w' ht => SX.to h1 h3 h2 ht
theorem sx_flush (w0 w : World) (g : Nat) (s : Sl) (X : List Nat) (h : SX w0 g s X w) (hs : s.steps < 1000000) :
    Calls Try.prog 11 #[.pointer (some ⟨g, 0, none⟩)] w (SxTo w0 g X w (flushL s)) := by
  obtain ⟨⟨d, wv, h1, h3⟩, h2⟩ := h
  exact (flush_calls w w0.heap.size g d wv s h1 hs).mono fun e w' ht => SX.to h1 h3 h2 ht
theorem sx_read (w0 w : World) (g : Nat) (s : Sl) (X : List Nat) (i : Int) (h : SX w0 g s X w) (hi : -9223372036854775808 ≤ i ∧ i ≤ 9223372036854775807) :
    Calls Try.prog 13 #[.pointer (some ⟨g, 0, none⟩), .int .i64 i] w (ReadAny w (readL s i).1 (readL s i).2) := by
  obtain ⟨⟨d, wv, h1, h3⟩, h2⟩ := h
  exact read_any w w0.heap.size g d wv s i h1 hi
theorem sx_crash (w0 w : World) (g : Nat) (s : Sl) (X : List Nat) (a : Option Addr) (cap : Nat) (fates : List UInt8) (cut : Int) (h : SX w0 g s X w) (hf : BS w a cap fates) (hoff : fates = [] ∨ ∀ x, a = some x → x.block < w0.heap.size) (hcut : -9223372036854775808 ≤ cut ∧ cut ≤ 9223372036854775807) :
    Calls Try.prog 12 #[.pointer (some ⟨g, 0, none⟩), .slice a fates.length cap, .int .i64 cut] w (SxTo w0 g X w (crashL s fates cut, 0)) := by
  obtain ⟨⟨d, wv, h1, h3⟩, h2⟩ := h
  refine (crash_calls w _ g d wv s a cap fates cut h1 hf ?_ hcut).mono fun e w' ht => SX.to h1 h3 h2 ht
  exact hoff.imp id fun ho x hx hm => by have := (h1.in_ge _ hm).1; have := ho x hx; omega

/-! rows of candidates -/
def oV (x : Value × List UInt8) : List Value := [x.1]
theorem oV_length (x : Value × List UInt8) : (oV x).length = 1 := rfl
abbrev CandL := Value × List (Value × List UInt8)
structure May (w : World) (base : Nat) (X : List Nat) (m : Nat) (VS : List CandL) : Prop where
  blk : Blk w m (VS.map (·.1)) 37
  mX : m ∈ X
  row : ∀ y ∈ VS, RO oV 1 w base 22 y.1 y.2
  rX : ∀ y ∈ VS, ∀ k, y.1.ownBlock = some k → k ∈ X
  mem : ∀ y ∈ VS, ∀ x ∈ y.2, OB w base 5 x.1 x.2
  xX : ∀ y ∈ VS, ∀ x ∈ y.2, ∀ k, x.1.ownBlock = some k → k ∈ X
  ne : VS.Pairwise fun a b => ∀ k, a.1.ownBlock = some k → b.1.ownBlock ≠ some k

theorem May.keep {w w' : World} {base m : Nat} {X : List Nat} {VS : List CandL} (h : May w base X m VS) (hk : XKeep X w w') : May w' base X m VS :=
  ⟨Blk.x h.blk hk h.mX, h.mX, fun y hy => ownsRow_x (h.row y hy) fun k hb => hk k (h.rX y hy k hb), h.rX, fun y hy x hx => OB.x (h.mem y hy x hx) hk fun k hb => h.xX y hy x hx k hb, h.xX, h.ne⟩
theorem May.wide {w : World} {base m : Nat} {X Y : List Nat} {VS : List CandL} (h : May w base X m VS) (hY : ∀ x ∈ X, x ∈ Y) : May w base Y m VS :=
  ⟨h.blk, hY _ h.mX, h.row, fun y hy k hk => hY k (h.rX y hy k hk), h.mem, fun y hy x hx k hk => hY k (h.xX y hy x hx k hk), h.ne⟩
/-- a row's block has its kind -/
theorem row_kind {w : World} {base n sz k : Nat} {e : TypeId} {v : Value} {xs : List Value} (h : w.ownsRow base e sz v n xs) (hk : v.ownBlock = some k) : base ≤ k ∧ ∃ cur, w.heap[k]? = some (.cells cur e (0, 0)) := by
  rcases h.2 with ⟨rfl, h0⟩ | ⟨g, cap, cur, rfl, hb, hg, h1⟩
  · cases hk
  · have : g = k := by simpa [Value.ownBlock] using hk
    subst this
    exact ⟨hb, cur, hg⟩
theorem kind_ne {w : World} {a b : Nat} {t u : TypeId} {x y : Array Value} (ha : w.heap[a]? = some (.cells x t (0, 0))) (hb : w.heap[b]? = some (.cells y u (0, 0))) (h : t ≠ u) : a ≠ b := by
  rintro rfl
  rw [ha] at hb
  simp only [Option.some.injEq, Obj.cells.injEq] at hb
  exact h hb.2.1
/-- one candidate more -/
theorem May.add {w wa w' : World} {base m i : Nat} {X : List Nat} {VS : List CandL} {y : CandL} {x : Value × List UInt8} {v' : Value} (h : May w base X m VS) (hb : Below w.heap.size w wa) (hbase : base ≤ w.heap.size) (hXl : ∀ k ∈ X, k < w.heap.size)
    (hi : VS[i]? = some y) (hx : OB wa base 5 x.1 x.2) (hxn : ∀ k, x.1.ownBlock = some k → w.heap.size ≤ k)
    (hr : w'.ownsRow base 22 1 v' (y.2.length + 1) (y.2.flatMap oV ++ [x.1])) (hg : wa.grownBy w' y.1.ownBlock) (hv : v'.ownBlock = y.1.ownBlock ∨ v'.ownBlock = some wa.heap.size) :
    May (w'.setCell ⟨m, i, none⟩ v') base (X ++ (x.1.ownBlock.toList ++ v'.ownBlock.toList)) m (VS.set i (v', y.2 ++ [x])) ∧ Chg (m :: y.1.ownBlock.toList) wa (w'.setCell ⟨m, i, none⟩ v') ∧ (∀ k, v'.ownBlock = some k → k ∈ X ∨ (wa.heap.size ≤ k ∧ k < (w'.setCell ⟨m, i, none⟩ v').heap.size)) ∧ Blk w' m (VS.map (·.1)) 37 := by
  have hyin : y ∈ VS := List.mem_of_getElem? hi
  obtain ⟨hil, hie⟩ := List.getElem?_eq_some_iff.1 hi
  have hcg : Chg y.1.ownBlock.toList wa w' := chg_grown hg
  have hcs : Chg [m] w' (w'.setCell ⟨m, i, none⟩ v') := chg_setCell w' m i v'
  have hall : Chg (m :: y.1.ownBlock.toList) wa (w'.setCell ⟨m, i, none⟩ v') := (hcg.mono (fun k hk => .inl (List.mem_cons_of_mem _ hk))).trans (hcs.mono (fun k hk => .inl (by simp at hk; simp [hk])))
  have ha : May wa base X m VS := h.keep fun k hk => hb.block k (hXl k hk)
  have hsz := hb.size
  have mlt : m < wa.heap.size := ha.blk.lt
  -- what is of another kind, or another row's, stands
  have stands : ∀ k, (∃ cur e, wa.heap[k]? = some (.cells cur e (0, 0)) ∧ e ≠ 22 ∧ e ≠ 37) → k ∉ (m :: y.1.ownBlock.toList) := by
    rintro k ⟨cur, e, hk, h1, h2⟩ hm
    rcases List.mem_cons.1 hm with rfl | hm
    · exact kind_ne hk ha.blk h2 rfl
    · obtain ⟨_, cur', hk'⟩ := row_kind (ha.row y hyin) (show y.1.ownBlock = some k by simpa using hm)
      exact kind_ne hk hk' h1 rfl
  have hcand : ∀ z : Value × List UInt8, OB wa base 5 z.1 z.2 → OB (w'.setCell ⟨m, i, none⟩ v') base 5 z.1 z.2 := fun z hz =>
    OB.chg hz hall fun k hk => by
      obtain ⟨_, cur, hc⟩ := row_kind hz hk
      exact stands k ⟨cur, 5, hc, by decide, by decide⟩
  have hrow : ∀ z ∈ VS, (∀ k, z.1.ownBlock = some k → y.1.ownBlock ≠ some k) → RO oV 1 (w'.setCell ⟨m, i, none⟩ v') base 22 z.1 z.2 := fun z hz hne =>
    RO.chg (ha.row z hz) hall fun k hk hm => by
      rcases List.mem_cons.1 hm with rfl | hm
      · obtain ⟨_, cur, hc⟩ := row_kind (ha.row z hz) hk
        exact kind_ne hc ha.blk (by decide) rfl
      · exact hne k hk (by simpa using hm)
  have hnew : RO oV 1 (w'.setCell ⟨m, i, none⟩ v') base 22 v' (y.2 ++ [x]) := by
    have h1 : RO oV 1 w' base 22 v' (y.2 ++ [x]) := by
      unfold RO
      rw [List.length_append, List.flatMap_append]
      exact hr
    refine RO.chg h1 hcs fun k hk hm => ?_
    obtain ⟨_, cur, hc⟩ := row_kind hr hk
    have hm' : k = m := by simpa using hm
    subst hm'
    rcases hv with hv | hv
    · rw [hv] at hk
      obtain ⟨_, cur', hk'⟩ := row_kind (ha.row y hyin) hk
      exact kind_ne hk' ha.blk (by decide) rfl
    · rw [hv] at hk
      simp only [Option.some.injEq] at hk
      omega
  have hlt : ∀ z ∈ VS, ∀ k, z.1.ownBlock = some k → k < wa.heap.size := fun z hz k hk => by
    obtain ⟨_, cur, hc⟩ := row_kind (ha.row z hz) hk
    exact (Array.getElem?_eq_some_iff.1 hc).1
  have hvne : ∀ z ∈ VS, (∀ k, z.1.ownBlock = some k → y.1.ownBlock ≠ some k) → ∀ k, z.1.ownBlock = some k → v'.ownBlock ≠ some k := fun z hz hne k hk hv' => by
    rcases hv with hv | hv
    · exact hne k hk (by rw [← hv]; exact hv')
    · rw [hv] at hv'
      have := hlt z hz k hk
      simp only [Option.some.injEq] at hv'
      omega
  have hpw := List.pairwise_iff_getElem.1 h.ne
  have hmem : ∀ z ∈ VS.set i (v', y.2 ++ [x]), z = (v', y.2 ++ [x]) ∨ (z ∈ VS ∧ ∀ k, z.1.ownBlock = some k → y.1.ownBlock ≠ some k) := fun z hz => by
    obtain ⟨j, hj, e⟩ := List.mem_iff_getElem.1 hz
    rw [List.length_set] at hj
    rw [List.getElem_set] at e
    split at e
    · exact .inl e.symm
    · rename_i hij
      refine .inr ⟨by rw [← e]; exact List.getElem_mem _, fun k hk hy => ?_⟩
      rw [← e] at hk
      rw [← hie] at hy
      rcases Nat.lt_or_ge i j with hlt | hge
      · exact hpw i j hil hj hlt k hy hk
      · exact hpw j i hj hil (by omega) k hk hy
  refine ⟨⟨?_, by simp [h.mX], fun z hz => ?_, fun z hz k hk => ?_, fun z hz q hq => ?_, fun z hz q hq k hk => ?_, ?_⟩, hall, fun k hk => ?_, ?_⟩
  · have hB := (ha.blk.keep hcg (fun hm => by
      obtain ⟨_, cur, hc⟩ := row_kind (ha.row y hyin) (show y.1.ownBlock = some m by simpa using hm)
      exact kind_ne hc ha.blk (by decide) rfl)).set i v'
    rw [List.map_set]
    exact hB
  · rcases hmem z hz with rfl | ⟨h1, h2⟩
    · exact hnew
    · exact hrow z h1 h2
  · rcases hmem z hz with rfl | ⟨h1, h2⟩
    · have hk : v'.ownBlock = some k := hk
      simp [hk]
    · exact List.mem_append_left _ (h.rX z h1 k hk)
  · rcases hmem z hz with rfl | ⟨h1, h2⟩
    · rcases List.mem_append.1 hq with hq | hq
      · exact hcand q (ha.mem y hyin q hq)
      · rw [List.mem_singleton] at hq; subst hq; exact hcand q hx
    · exact hcand q (ha.mem z h1 q hq)
  · rcases hmem z hz with rfl | ⟨h1, h2⟩
    · rcases List.mem_append.1 hq with hq | hq
      · exact List.mem_append_left _ (h.xX y hyin q hq k hk)
      · rw [List.mem_singleton] at hq; subst hq; simp [hk]
    · exact List.mem_append_left _ (h.xX z h1 q hq k hk)
  · refine List.pairwise_iff_getElem.2 fun a b ha' hb' hab k hk => ?_
    rw [List.length_set] at ha' hb'
    rw [List.getElem_set] at hk ⊢
    by_cases e1 : i = a
    · subst e1
      rw [if_pos rfl] at hk
      rw [if_neg (by omega)]
      exact fun hk2 => hvne VS[b] (List.getElem_mem _) (fun q hq hy => by rw [← hie] at hy; exact hpw i b hil hb' hab q hy hq) k hk2 hk
    · rw [if_neg e1] at hk
      by_cases e2 : i = b
      · subst e2
        rw [if_pos rfl]
        exact hvne VS[a] (List.getElem_mem _) (fun q hq hy => by rw [← hie] at hy; exact hpw a i ha' hil hab q hq hy) k hk
      · rw [if_neg e2]
        exact hpw a b ha' hb' hab k hk
  · rcases hv with hv | hv
    · exact .inl (h.rX y hyin k (by rw [← hv]; exact hk))
    · refine .inr ⟨by rw [hv] at hk; simp only [Option.some.injEq] at hk; omega, ?_⟩
      obtain ⟨_, cur, hc⟩ := row_kind hnew hk
      exact (Array.getElem?_eq_some_iff.1 hc).1
  · exact ha.blk.keep hcg (fun hm => by
      obtain ⟨_, cur, hc⟩ := row_kind (ha.row y hyin) (show y.1.ownBlock = some m by simpa using hm)
      exact kind_ne hc ha.blk (by decide) rfl)
theorem row_slice {w : World} {base n sz : Nat} {e : TypeId} {v : Value} {xs : List Value} (h : w.ownsRow base e sz v n xs) : ∃ a c, v = .slice a n c := by
  rcases h.2 with ⟨rfl, h0⟩ | ⟨g, cap, cur, rfl, _⟩
  · exact ⟨none, 0, by rw [h0]⟩
  · exact ⟨_, _, rfl⟩
theorem run_build_sl (w : World) (a : Option Addr) (n c : Nat) : (Instr.buildSlice 37 1 #[(0, .slice a n c)]).run Try.prog w = .ok (.slice (some ⟨w.heap.size, 0, none⟩) 1 1) (w.alloc (.cells #[.slice a n c] 22)) := by go_simp
theorem opOk_append_zeros_b {P : Program} {o : Oper} {ρ : Operand → Value} {w : World} {K : Value → World → Prop}
    (s x : Operand) (t tn : TypeId) (ho : o.op = .call { callee := .builtin .append, args := #[s, x], argTypes := #[t, tn] })
    (base : Nat) (e : TypeId) (kn : IntKind) (hinf : (P.info? e).map (fun i => (i.zero, i.size, i.bytes)) = some (some (.int .u8 0), 1, 1)) (ht : P.underlying t = some (.slice e)) (htn : P.underlying tn = some (.int kn))
    (v : Value) (l : List UInt8) (hown : OB w base e v l) (hs : ρ s = v) (m : Nat) (hx : ρ x = .int .i64 (m : Int)) (hbytes : l.length + m ≤ 140737488355328) (hbase : base ≤ w.heap.size)
    (hK : ∀ v' w', OB w' base e v' (l ++ List.replicate m 0) → w.grownBy w' v.ownBlock → (v'.ownBlock = v.ownBlock ∨ v'.ownBlock = some w.heap.size) → K v' w') : OpOk P o ρ w K := by
  obtain ⟨v', w', hr, h1, h2, h3⟩ := run_append_zeros_b (P := P) (w := w) base t tn o.type e kn hinf ht htn v l hown m hbytes hbase
  refine opOk_run (v := v') (w' := w') ?_ (hK v' w' h1 h2 h3)
  simp only [execOp, ho, resolve, invoke, builtin, Sem.run_bind, Sem.run_pure, Result.andThen_ok, List.map_toArray, List.map_cons, List.map_nil, hs, hx, hr]
theorem opOk_append_lit0n {P : Program} {o : Oper} {ρ : Operand → Value} {w : World} {K : Value → World → Prop} (s x : Operand) (t e : TypeId) (ho : o.op = .call { callee := .builtin .append, args := #[s, x], argTypes := #[t, t] })
    (hinf : (P.info? e).map (fun i => (i.zero, i.size, i.bytes)) = some (some (.int .u8 0), 1, 1)) (ht : P.underlying t = some (.slice e)) (b : Nat) (hs : ρ s = .slice (some ⟨b, 0, none⟩) 0 0) (hB : Blk w b [] e)
    {a : Option Addr} {c n : Nat} {l : List UInt8} (hc : BS w a c l) (hn : l.length = n) (hx : ρ x = .slice a n c) (hbytes : l.length ≤ 140737488355328) (base : Nat) (hbase : base ≤ b)
    (hK : ∀ v' w', OB w' base e v' l → Below w.heap.size w w' → K v' w') : OpOk P o ρ w K := by
  subst hn
  exact opOk_append_lit0 s x t e ho hinf ht b hs hB hc hx hbytes base hbase hK
theorem step_ok {P : Program} {ops : Array Oper} {o : Oper} {a : Act} {w : World} {K : Act → World → Prop} {Q : Exit → Act → World → Prop} {E : Prop}
    (hg : o.guard = none) (h : OpOk P o a.eval w fun v w' => K (a.put o.dst v) w') : if Region.wanted o (yielded ops a.tmps) = true then Oper.wp P o a w K Q else E := by
  have hw : Region.wanted o (yielded ops a.tmps) = true := by simp [Region.wanted, hg]
  rw [if_pos hw]
  unfold Oper.wp
  unfold OpOk at h
  split at h
  · rename_i v w' e; rw [e]; exact h
  · rename_i w' e; rw [e]; exact h
  · rename_i f args w' e
    rw [e, Oper.upon_enter]
    refine h.mono ?_
    rintro e w'' ⟨v, rfl, hk⟩
    exact hk
  · exact h.elim
end Go.Proofs.Ytoegnlabneafkaa
