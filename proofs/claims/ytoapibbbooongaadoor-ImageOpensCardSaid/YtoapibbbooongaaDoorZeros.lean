/- 'append(x, make([]T, n)...)' onto a row that the call owns: n noughts more. -/
import Derived.Test.YtoapibbbooongaaDoorDraws
import Derived.Maps.AppendAt
import Derived.Lib.AppendZeros
namespace Go.Quad
open Go.RowKit

section
variable {P : Program} (w : World)

theorem run_append_zeros_at (base : Nat) (t tn ty e : TypeId) (i : TypeInfo) (z : Value) (k kn : IntKind) (size bytes : Nat) (ht : P.underlying t = some (.slice e)) (htn : P.underlying tn = some (.int kn)) (hi : P.info? e = some i) (hz : i.zero = some z)
    (hsize : i.size = size) (hby : i.bytes = bytes) (hzs : z.cells.size = size) (hsz : 0 < size) 
    (v : Value) (n : Nat) (xs : List Value) (hown : w.ownsRow base e size v n xs)
    (m : Nat) (hz1 : ∀ u ∈ (Builtin.zeroCells z.cells m).toList, u.oneCell' = true) (h63 : n + m ≤ maxLen) (hbytes : (n + m) * bytes ≤ 140737488355328) (hbase : base ≤ w.heap.size) :
    ∃ v' w', (Builtin.append_ #[t, tn] ty #[v, .int k (m : Int)]).run P w = .ok v' w' ∧ w'.ownsRow base e size v' (n + m) (xs ++ (Builtin.zeroCells z.cells m).toList) ∧ w.grownBy w' v.ownBlock ∧ (v'.ownBlock = v.ownBlock ∨ v'.ownBlock = some w.heap.size) := by
  subst hsize
  subst hby
  have hsmall : n + m ≤ 9223372036854775807 := by simp only [maxLen] at h63; omega
  generalize hnews : (Builtin.zeroCells z.cells m).toList = news
  have hl : news.length = m * i.size := by rw [← hnews, Array.length_toList, size_zeroCells, hzs]
  have hna : (Builtin.zeroCells z.cells m) = news.toArray := by rw [← hnews]
  have h1 : ∀ u ∈ news, u.oneCell' = true := by
    rw [← hnews]; exact hz1
  have hlen : (xs ++ news).length = (n + m) * i.size := by rw [List.length_append, hown.1, hl, Nat.add_mul]
  have hw : IntKind.i64.wrap (m : Int) = m := by rw [IntKind.wrap_i64]; omega
  have hneg : ¬ ((m : Int) < 0) := by omega
  have hmb : m * i.bytes ≤ 140737488355328 := Nat.le_trans (Nat.mul_le_mul_right _ (by omega)) hbytes
  have h48i : ¬ (281474976710656 < (m : Int) * (i.bytes : Int)) := by
    rw [← Int.natCast_mul]
    omega
  -- what the growing arm leaves, whatever was there before
  have grown : ∀ (old : Nat), old < n + m → ∀ (row : Option Nat),
      (w.drew.alloc (.cells (xs.toArray ++ news.toArray ++ Builtin.zeroCells z.cells (grownCap w (n + m) old e - (n + m))) e)).ownsRow base e i.size
        (.slice (some ⟨w.heap.size, 0, none⟩) (n + m) (grownCap w (n + m) old e)) (n + m) (xs ++ news) ∧
      w.grownBy (w.drew.alloc (.cells (xs.toArray ++ news.toArray ++ Builtin.zeroCells z.cells (grownCap w (n + m) old e - (n + m))) e)) row := by
    intro old ho row
    have hge := grownCap_ge w (n + m) old e
    have hcm : grownCap w (n + m) old e ≤ maxLen := grownCap_le_maxLen w (n + m) old e h63
    refine ⟨⟨hlen, .inr ⟨w.heap.size, _, _, rfl, hbase, heap_alloc_new w.drew _, hge, hcm, ?_, ?_⟩⟩, ⟨rfl, rfl, rfl, by simp, fun j hj _ => heap_alloc_old w.drew _ hj⟩⟩
    · simp only [Array.size_append, List.size_toArray, size_zeroCells, hzs, hown.1, hl, ← Nat.add_mul]
      congr 1
      omega
    · simp only [Array.toList_append, List.append_assoc]
      rw [← List.append_assoc, ← hlen]
      exact List.take_left
  by_cases hm : m = 0
  · subst hm
    obtain rfl : news = [] := List.eq_nil_of_length_eq_zero (by simpa using hl)
    refine ⟨v, w, ?_, by simpa using hown, ⟨rfl, rfl, rfl, Nat.le_refl _, fun _ _ _ => rfl⟩, .inl rfl⟩
    have hw0 : IntKind.i64.wrap 0 = 0 := by simpa using hw
    rcases hown.2 with ⟨rfl, rfl⟩ | ⟨g, cap, cur, rfl, hbg, hg, hnc, _⟩
    · simp [Builtin.append_, run_underlying ht, run_underlying htn, sizeOf, typeInfo, hi, asInt, asIntOf, hw0]
    · simp [Builtin.append_, run_underlying ht, run_underlying htn, sizeOf, typeInfo, hi, asInt, asIntOf, hw0, hnc, storeCells]
  have hns : ¬ (m * i.size = 0) := Nat.mul_ne_zero hm (by omega)
  rcases hown.2 with ⟨rfl, rfl⟩ | ⟨g, cap, cur, rfl, hbg, hg, hnc, hcm, hcs, htake⟩
  · obtain rfl : xs = [] := List.eq_nil_of_length_eq_zero (by simpa using hown.1)
    have hr := Lib.run_append_nil_zeros (P := P) w t tn ty e i z k kn ht htn hi hz m (by omega) hsz (by omega) (by omega)
    have hgr := grown 0 (by omega) (Value.ownBlock (.slice none 0 0))
    rw [hna] at hr
    simp only [Nat.zero_add, List.nil_append, Array.empty_append] at hgr ⊢
    exact ⟨_, _, hr, hgr.1, hgr.2, Or.inr rfl⟩
  · by_cases hroom : n + m ≤ cap
    · have hfit : n * i.size + news.length ≤ cur.size := by rw [hl, hcs, ← Nat.add_mul]; exact Nat.mul_le_mul_right _ hroom
      have hst := run_storeCells_at P g (n * i.size) e news 0 cur w hg (by simpa using hfit) h1
      simp only [Nat.add_zero] at hst
      have hr : (Builtin.append_ #[t, tn] ty #[.slice (some ⟨g, 0, none⟩) n cap, .int k (m : Int)]).run P w = .ok (.slice (some ⟨g, 0, none⟩) (n + m) cap) (w.setRow g (cur.toList.take (n * i.size) ++ news ++ cur.toList.drop (n * i.size + news.length)).toArray) := by
        simp [Builtin.append_, run_underlying ht, run_underlying htn, sizeOf, typeInfo, zeroValue, hi, hz, asInt, asIntOf, hw, hneg, hns, h48i, hroom, Addr.add_lit, hna, hst]
      refine ⟨_, _, hr, ⟨hlen, .inr ⟨g, cap, _, rfl, hbg, setRow_heap w g cur _ e _ hg, hroom, hcm, ?_, ?_⟩⟩, ⟨rfl, rfl, rfl, by simp, fun j _ hj => setRow_other w g j _ (fun e => hj (by simp [Value.ownBlock, e]))⟩, Or.inl rfl⟩
      · simp only [List.size_toArray, List.length_append, List.length_take, List.length_drop, Array.length_toList]
        omega
      · rw [htake, ← hlen]
        exact List.take_left
    · have holds : ∀ j u, xs[j]? = some u → w.cell? ((⟨g, 0, none⟩ : Addr).add j) = some u := hown.cells (g := g) rfl
      have hn' : ¬ (n + m ≤ cap) := hroom
      have h63' : ¬ (9223372036854775807 < ((n : Int) + (m : Int))) := by omega
      have h48' : ¬ (281474976710656 < Builtin.nextslicecap (n + m) cap * i.bytes) := by have := growslice_fits (old := cap) (need := n + m) (bytes := i.bytes) (by omega) hbytes; omega
      have hfo := run_firstCells_some (P := P) w.drew i.size n ⟨g, 0, none⟩ n cap xs hown.1 (by simpa using holds)
      have hr : (Builtin.append_ #[t, tn] ty #[.slice (some ⟨g, 0, none⟩) n cap, .int k (m : Int)]).run P w = .ok (.slice (some ⟨w.heap.size, 0, none⟩) (n + m) (grownCap w (n + m) cap e))
          (w.drew.alloc (.cells (xs.toArray ++ news.toArray ++ Builtin.zeroCells z.cells (grownCap w (n + m) cap e - (n + m))) e)) := by
        simp [Builtin.append_, run_underlying ht, run_underlying htn, sizeOf, typeInfo, zeroValue, hi, hz, asInt, asIntOf, hw, hneg, hns, h48i, hn', h63', h48', Question.forced, hfo, newRow, grownCap, hna]
        congr 2
        apply Array.ext'
        simp [List.append_assoc]
      have hgr := grown cap (by omega) (Value.ownBlock (.slice (some ⟨g, 0, none⟩) n cap))
      exact ⟨_, _, hr, hgr.1, hgr.2, Or.inr rfl⟩
end

/-- bytes: n noughts more -/
theorem run_append_zeros_b {P : Program} {w : World} (base : Nat) (t tn ty e : TypeId) (kn : IntKind) (hinf : (P.info? e).map (fun i => (i.zero, i.size, i.bytes)) = some (some (.int .u8 0), 1, 1)) (ht : P.underlying t = some (.slice e)) (htn : P.underlying tn = some (.int kn))
    (v : Value) (l : List UInt8) (hown : OB w base e v l) (m : Nat) (hbytes : l.length + m ≤ 140737488355328) (hbase : base ≤ w.heap.size) :
    ∃ v' w', (Builtin.append_ #[t, tn] ty #[v, .int .i64 (m : Int)]).run P w = .ok v' w' ∧ OB w' base e v' (l ++ List.replicate m 0) ∧ w.grownBy w' v.ownBlock ∧ (v'.ownBlock = v.ownBlock ∨ v'.ownBlock = some w.heap.size) := by
  have ezc : (Builtin.zeroCells (Value.int .u8 0).cells m).toList = (List.replicate m (0 : UInt8)).map u8v := by
    rw [List.map_replicate]
    refine List.ext_getElem (by simp [Builtin.zeroCells, Value.cells]) fun j h1 h2 => ?_
    simp [Builtin.zeroCells, Value.cells, u8v, Nat.mod_one]
  obtain ⟨i, hi, hz0, hz1, hz2⟩ := info_parts hinf
  obtain ⟨v', w', hr, h2, h3, h4⟩ := run_append_zeros_at (P := P) w base t tn ty e i _ .i64 kn 1 1 ht htn hi hz0 hz1 hz2 rfl (by decide) v l.length _ hown m (by rw [ezc]; exact oneCell_u8v _) (by unfold maxLen; omega) (by omega) hbase
  refine ⟨v', w', hr, ?_, h3, h4⟩
  rw [ezc] at h2
  unfold OB
  rw [List.length_append, List.length_replicate, List.map_append]
  exact h2

theorem wpList_append_zeros_b {P : Program} {w : World} {ops : Array Oper} {rest : List Oper} {o : Oper} {ac : Act} {Q : Exit → Act → World → Prop}
    (s x : Operand) (t tn : TypeId) (ho : o.op = .call { callee := .builtin .append, args := #[s, x], argTypes := #[t, tn] }) (hw : Region.wanted o (yielded ops ac.tmps) = true)
    (base : Nat) (e : TypeId) (kn : IntKind) (hinf : (P.info? e).map (fun i => (i.zero, i.size, i.bytes)) = some (some (.int .u8 0), 1, 1)) (ht : P.underlying t = some (.slice e)) (htn : P.underlying tn = some (.int kn))
    (v : Value) (l : List UInt8) (hown : OB w base e v l) (hs : ac.eval s = v) (m : Nat) (hx : ac.eval x = .int .i64 (m : Int)) (hbytes : l.length + m ≤ 140737488355328) (hbase : base ≤ w.heap.size)
    (hK : ∀ v' w', OB w' base e v' (l ++ List.replicate m 0) → w.grownBy w' v.ownBlock → (v'.ownBlock = v.ownBlock ∨ v'.ownBlock = some w.heap.size) → wpList P ops Q rest (ac.put o.dst v') w') :
    wpList P ops Q (o :: rest) ac w := by
  obtain ⟨v', w', hr, h2, h3, h4⟩ := run_append_zeros_b (P := P) base t tn o.type e kn hinf ht htn v l hown m hbytes hbase
  refine wpList_by (fun v1 w1 => v1 = v' ∧ w1 = w') hw ⟨_, _, ?_, rfl, rfl⟩ (by rintro v1 w1 ⟨rfl, rfl⟩; exact hK _ _ h2 h3 h4)
  simp only [execOp, ho, resolve, invoke, builtin, Sem.run_bind, Sem.run_pure, Result.andThen_ok, List.map_toArray, List.map_cons, List.map_nil, hs, hx, hr]

/-- 'append([]byte{}, x...)': the '[]byte{}' was laid last -/
theorem wpList_append_lit0 {P : Program} {W : World} {ops : Array Oper} {rest : List Oper} {o : Oper} {ac : Act} {Q : Exit → Act → World → Prop}
    (s x : Operand) (t : TypeId) (ho : o.op = .call { callee := .builtin .append, args := #[s, x], argTypes := #[t, t] }) (hw : Region.wanted o (yielded ops ac.tmps) = true)
    (e : TypeId) (hinf : (P.info? e).map (fun i => (i.zero, i.size, i.bytes)) = some (some (.int .u8 0), 1, 1)) (ht : P.underlying t = some (.slice e))
    (hs : ac.eval s = .slice (some ⟨W.heap.size, 0, none⟩) 0 0) {a : Option Addr} {c : Nat} {l : List UInt8} (hc : BS W a c l) (n : Nat) (hn : l.length = n) (hx : ac.eval x = .slice a n c) (hbytes : l.length ≤ 140737488355328)
    (hK : ∀ v' w', OB w' W.heap.size e v' l → Below W.heap.size W w' → wpList P ops Q rest (ac.put o.dst v') w') : wpList P ops Q (o :: rest) ac (W.alloc (.cells #[] e)) := by
  subst hn
  have hb := below_alloc W (.cells #[] e)
  have h : OpOk P o ac.eval (W.alloc (.cells #[] e)) (fun v w' => OB w' W.heap.size e v l ∧ Below (W.alloc (.cells #[] e)).heap.size (W.alloc (.cells #[] e)) w') :=
    opOk_append_lit0 s x t e ho hinf ht W.heap.size hs (blk_alloc W [] e) (hc.below hb) hx hbytes W.heap.size (Nat.le_refl _) fun v' w' h1 h2 => ⟨h1, h2⟩
  unfold OpOk at h
  unfold wpList
  rw [if_pos hw]
  left
  unfold Oper.wp
  cases hr : (execOp ac.eval o).run P (W.alloc (.cells #[] e)) with
  | halt x w' => rw [hr] at h; exact h.elim
  | ok n w' =>
    rw [hr] at h
    cases n with
    | value v => exact hK v w' h.1 (hb.trans (h.2.mono hb.size))
    | skip => exact hK undef w' h.1 (hb.trans (h.2.mono hb.size))
    | enter f args => exact Calls.mono h fun e w'' ⟨v, he, h1, h2⟩ => by subst he; exact hK v w'' h1 (hb.trans (h2.mono hb.size))
    | _ => exact h.elim

theorem ownsRow_lit0 (W : World) (e : TypeId) (size : Nat) : (W.alloc (.cells #[] e)).ownsRow W.heap.size e size (.slice (some ⟨W.heap.size, 0, none⟩) 0 0) 0 [] :=
  ⟨by simp, .inr ⟨W.heap.size, 0, #[], rfl, Nat.le_refl _, heap_alloc_new W _, Nat.le_refl _, by simp [maxLen], by simp, by simp⟩⟩

/-- 'append([]T{}, x...)': the '[]T{}' was laid last -/
theorem wpList_append_litE {P : Program} {W : World} {ops : Array Oper} {rest : List Oper} {o : Oper} {ac : Act} {Q : Exit → Act → World → Prop}
    (s x : Operand) (t : TypeId) (ho : o.op = .call { callee := .builtin .append, args := #[s, x], argTypes := #[t, t] }) (hw : Region.wanted o (yielded ops ac.tmps) = true)
    (e : TypeId) (z : Value) (size bytes : Nat) (hinf : (P.info? e).map (fun i => (i.zero, i.size, i.bytes)) = some (some z, size, bytes)) (hzs : z.cells.size = size) (hsz : 0 < size) (ht : P.underlying t = some (.slice e))
    (hs : ac.eval s = .slice (some ⟨W.heap.size, 0, none⟩) 0 0) {a : Option Addr} {m c : Nat} {news : List Value} (hc : CS W a c size news) (hl : news.length = m * size) (hm : m ≤ c) (hx : ac.eval x = .slice a m c) (h1 : ∀ u ∈ news, u.oneCell' = true)
    (h63 : m ≤ maxLen) (hbytes : m * bytes ≤ 140737488355328)
    (hK : ∀ v' w', w'.ownsRow W.heap.size e size v' m news → Below W.heap.size W w' → wpList P ops Q rest (ac.put o.dst v') w') : wpList P ops Q (o :: rest) ac (W.alloc (.cells #[] e)) := by
  have hb := below_alloc W (.cells #[] e)
  obtain ⟨i, hi, hz0, hz1, hz2⟩ := info_parts hinf
  refine wpList_append_cs s x t ho hw W.heap.size e i z size bytes ht hi hz0 hz1 hz2 hzs hsz _ 0 [] hs (ownsRow_lit0 W e size) hx hl (hc.below hb) hm h1 (by rw [Nat.zero_add]; exact h63) (by rw [Nat.zero_add]; exact hbytes) hb.size ?_
  intro v' w' h2 h3 _
  rw [Nat.zero_add, List.nil_append] at h2
  refine hK v' w' h2 (hb.trans ((grownBy_below h3 hb.size ?_)))
  intro k hk
  simp only [Value.ownBlock, Option.some.injEq] at hk
  omega

/-- append onto a row that the call owns -/
theorem wpList_append_row {P : Program} {w : World} {ops : Array Oper} {rest : List Oper} {o : Oper} {ac : Act} {Q : Exit → Act → World → Prop}
    (s x : Operand) (t : TypeId) (ho : o.op = .call { callee := .builtin .append, args := #[s, x], argTypes := #[t, t] }) (hw : Region.wanted o (yielded ops ac.tmps) = true)
    (base : Nat) (e : TypeId) (z : Value) (size bytes : Nat) (hinf : (P.info? e).map (fun i => (i.zero, i.size, i.bytes)) = some (some z, size, bytes)) (hzs : z.cells.size = size) (hsz : 0 < size) (ht : P.underlying t = some (.slice e))
    (v : Value) (n : Nat) (xs : List Value) (hs : ac.eval s = v) (hown : w.ownsRow base e size v n xs) {a : Option Addr} {m c : Nat} {news : List Value} (hx : ac.eval x = .slice a m c) (hl : news.length = m * size) (hc : CS w a c size news) (hm : m ≤ c) (h1 : ∀ u ∈ news, u.oneCell' = true)
    (h63 : n + m ≤ maxLen) (hbytes : (n + m) * bytes ≤ 140737488355328) (hbase : base ≤ w.heap.size)
    (hK : ∀ v' w', w'.ownsRow base e size v' (n + m) (xs ++ news) → Below base w w' → w.grownBy w' v.ownBlock → wpList P ops Q rest (ac.put o.dst v') w') : wpList P ops Q (o :: rest) ac w := by
  obtain ⟨i, hi, hz0, hz1, hz2⟩ := info_parts hinf
  refine wpList_append_cs s x t ho hw base e i z size bytes ht hi hz0 hz1 hz2 hzs hsz v n xs hs hown hx hl hc hm h1 h63 hbytes hbase ?_
  intro v' w' h2 h3 _
  exact hK v' w' h2 (grownBy_below h3 hbase fun k hk => (World.ownsRow.lt hown k hk).1) h3
end Go.Quad
