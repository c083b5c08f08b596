/- A table of jobs in memory. -/
import Derived.Test.YtombndhjoaaaiaaDoorJobMap
import Derived.Test.YtombndhjoaaaiaaDoorJobRow
import Derived.Test.YtombndhjoaaaiaaDoorNoteE
namespace Go.Proofs.YtombndhjoaaaiaaDoor
open Go.RowKit Go.Quad _root_.Quad _root_.Quad.Ink

theorem row_kind {w : World} {base n sz k : Nat} {e : TypeId} {v : Value} {xs : List Value} (h : w.ownsRow base e sz v n xs) (hk : v.ownBlock = some k) : base ≤ k ∧ ∃ cur, w.heap[k]? = some (.cells cur e (0, 0)) := by
  rcases h.2 with ⟨rfl, h0⟩ | ⟨g, cap, cur, rfl, hb, hg, h1⟩
  · cases hk
  · have : g = k := by simpa [Value.ownBlock] using hk
    subst this
    exact ⟨hb, cur, hg⟩
theorem kind_ne {w : World} {a b : Nat} {t u : TypeId} {x y : Array Value} (ha : w.heap[a]? = some (.cells x t (0, 0))) (hb : w.heap[b]? = some (.cells y u (0, 0))) (h : t ≠ u) : a ≠ b := by
  rintro rfl
  rw [ha] at hb
  simp only [Option.some.injEq, Obj.cells.injEq] at hb
  exact h hb.2.1
theorem owns_block {w w' : World} {P : Program} {k : TypeId} {R : Value → Option (DataW Unit × List MemPlace)} {b n : Nat} {D : DataW Unit} (h : w.ownsMap P k R b n D) (hb : w'.heap[b]? = w.heap[b]?) : w'.ownsMap P k R b n D := by
  obtain ⟨es, clock, h1, h2⟩ := h
  exact ⟨es, clock, by rw [hb]; exact h1, h2⟩
theorem row_slice {w : World} {base n sz : Nat} {e : TypeId} {v : Value} {xs : List Value} (h : w.ownsRow base e sz v n xs) : ∃ a c, v = .slice a n c := by
  rcases h.2 with ⟨rfl, h0⟩ | ⟨g, cap, cur, rfl, _⟩
  · exact ⟨none, 0, by rw [h0]⟩
  · exact ⟨_, _, rfl⟩

def tbV (t : TbD) (b : Nat) (ov : Value) : List Value := [.int .i64 t.nodes, .int .u32 (t.spent : Int), .map (some b), ov] ++ t.last.flatMap repV
structure IsTb (w : World) (B T b : Nat) (ov : Value) (t : TbD) : Prop where
  own : Blk w T (tbV t b ov) 75
  map : ∃ D, w.ownsMap Tryd.prog 28 jobR b t.active.length D ∧ MapIs D t.active
  over : JR w B ov t.over
  ge : B ≤ T ∧ B ≤ b
  ok : t.Ok
def tbS (T b : Nat) (ov : Value) : List Nat := T :: b :: ov.ownBlock.toList
theorem IsTb.lt {w : World} {B T b : Nat} {ov : Value} {t : TbD} (h : IsTb w B T b ov t) : ∀ k ∈ tbS T b ov, B ≤ k ∧ k < w.heap.size := fun k hk => by
  rcases List.mem_cons.1 hk with rfl | hk
  · exact ⟨h.ge.1, h.own.lt⟩
  · rcases List.mem_cons.1 hk with rfl | hk
    · obtain ⟨D, hD, _⟩ := h.map
      exact ⟨h.ge.2, hD.lt⟩
    · have := h.over.own (k := k) (by simpa using hk)
      exact ⟨this.1, this.2.1⟩
theorem IsTb.chg {S : List Nat} {w w' : World} {B T b : Nat} {ov : Value} {t : TbD} (h : IsTb w B T b ov t) (hc : Chg S w w') (hs : ∀ k ∈ tbS T b ov, k ∉ S) : IsTb w' B T b ov t := by
  obtain ⟨D, hD, hM⟩ := h.map
  exact ⟨h.own.keep hc (hs T (by simp [tbS])), ⟨D, owns_block hD (hc.block b hD.lt (hs b (by simp [tbS]))), hM⟩, h.over.chg hc fun k hk => hs k (by simp [tbS, hk]), h.ge, h.ok⟩
theorem IsTb.below {w w' : World} {B T b : Nat} {ov : Value} {t : TbD} (h : IsTb w B T b ov t) (hb : Below w.heap.size w w') : IsTb w' B T b ov t := h.chg (Chg.of_below [] hb) (by simp)
theorem IsTb.ne {w : World} {B T b : Nat} {ov : Value} {t : TbD} (h : IsTb w B T b ov t) : T ≠ b ∧ ov.ownBlock ≠ some T ∧ ov.ownBlock ≠ some b := by
  obtain ⟨D, ⟨es, ck, hb, _⟩, _⟩ := h.map
  have hT : w.heap[T]? = _ := h.own
  refine ⟨?_, fun e => ?_, fun e => ?_⟩
  · rintro rfl
    rw [hb] at hT
    cases hT
  · obtain ⟨_, _, cur, hc⟩ := h.over.own e
    exact kind_ne hc hT (by decide) rfl
  · obtain ⟨_, _, cur, hc⟩ := h.over.own e
    unfold Blk at hc
    rw [hb] at hc
    cases hc
/-- a call on a table: what it hands back, what becomes of the table -/
def TbTo (w : World) (B T b : Nat) (ov : Value) (t' : TbD) (r : Value) (e : Ending) (w' : World) : Prop :=
  e = .returned r ∧ ∃ ov', IsTb w' B T b ov' t' ∧ Chg (tbS T b ov) w w' ∧ ∀ k, ov'.ownBlock = some k → k ∈ tbS T b ov ∨ w.heap.size ≤ k
theorem TbTo.same {w w' : World} {B T b : Nat} {ov : Value} {t : TbD} {r : Value} (h : IsTb w B T b ov t) (hb : Below w.heap.size w w') : TbTo w B T b ov t r (.returned r) w' :=
  ⟨rfl, ov, h.below hb, Chg.of_below _ hb, fun k hk => .inl (by simp [tbS, hk])⟩
theorem keyed32 : Maps.Keyed Tryd.prog 28 := Maps.int_keyed Tryd.underlying28
theorem keyOf32 {id : Nat} (h : id < 4294967296) : keyOf Tryd.prog 28 (.int .u32 (id : Int)) = some (idK id) := Maps.keyOf_int_mk Tryd.underlying28 (u32_wf h)
end Go.Proofs.YtombndhjoaaaiaaDoor
