/- Plain: a log of records that come in batches: its parts, its blocks, what is read behind an opening. -/
import Derived.Test.YtoapibbbooongaaDoorImgM
import Derived.Test.YtoapibbbooongaaDoorInkD
namespace Go.Proofs.YtoapibbbooongaaDoor
open Go.RowKit Go.Quad _root_.Quad _root_.Quad.Slab _root_.Quad.Ink

/-! records as bytes, and back -/
def textL (t : Bytes) : Bytes := numL t.length ++ t
def joinL (l : List Bytes) : Bytes := l.flatMap textL
def npart (n : Nat) : Nat := max 1 ((n + 103) / 104)
def partsL (l : List Bytes) : Nat := npart (joinL l).length
def partP (p : Bytes) (i : Nat) : Bytes := (p.drop (104 * i)).take 104
def splitGo : Nat → St → List Bytes → List Bytes × St
  | 0, s, out => (out, s)
  | k + 1, s, out => if s.1.length = 0 then (out, s) else splitGo k (textS s).2 (out ++ [(textS s).1])
def splitL (p : Bytes) : List Bytes × Bool := ((splitGo p.length (p, false) []).1, !(splitGo p.length (p, false) []).2.2)
theorem textS_text (t r : Bytes) (h : t.length < 18446744073709551616) : textS (textL t ++ r, false) = (t, (r, false)) := by
  have e : numS (textL t ++ r, false) = (t.length, (t ++ r, false)) := by
    unfold numS
    rw [if_neg (by simp)]
    unfold numTo textL
    rw [List.append_assoc, rd_num0 _ h]
  unfold textS
  rw [e]
  dsimp only
  rw [if_neg (by simp), if_neg (by simp), List.take_left' rfl, List.drop_left' rfl]
theorem textL_pos (t : Bytes) : 1 ≤ (textL t).length := by
  have := numL_pos t.length
  unfold textL
  rw [List.length_append]; omega
theorem joinL_cons (t : Bytes) (l : List Bytes) : joinL (t :: l) = textL t ++ joinL l := by unfold joinL; rw [List.flatMap_cons]
theorem joinL_append (a b : List Bytes) : joinL (a ++ b) = joinL a ++ joinL b := by unfold joinL; rw [List.flatMap_append]
theorem splitGo_done (k : Nat) (b : Bool) (out : List Bytes) : splitGo k ([], b) out = (out, ([], b)) := by cases k <;> rfl
theorem splitGo_join : ∀ (l : List Bytes) (k : Nat) (out : List Bytes), (∀ t ∈ l, t.length < 18446744073709551616) → (joinL l).length ≤ k → splitGo k (joinL l, false) out = (out ++ l, ([], false))
  | [], k, out, _, _ => by rw [show joinL [] = [] from rfl, splitGo_done]; simp
  | t :: l, k, out, h, hk => by
    rw [joinL_cons] at hk ⊢
    rw [List.length_append] at hk
    have := textL_pos t
    match k with
    | 0 => omega
    | k + 1 =>
      unfold splitGo
      rw [if_neg (by show ¬ (textL t ++ joinL l).length = 0; rw [List.length_append]; omega), textS_text _ _ (h t (List.mem_cons_self ..)), splitGo_join l k _ (fun x hx => h x (List.mem_cons_of_mem _ hx)) (by omega)]
      simp
theorem split_join {l : List Bytes} (h : ∀ t ∈ l, t.length < 18446744073709551616) : splitL (joinL l) = (l, true) := by
  unfold splitL
  rw [splitGo_join l _ [] h (Nat.le_refl _)]
  rfl
/-- an eye that reads a text goes on, or has failed and has nothing left -/
theorem textS_less {s : St} (h0 : 0 < s.1.length) (hb : s.2 = false) : (textS s).2.1.length < s.1.length ∧ ((textS s).2.2 = true → (textS s).2.1 = []) := by
  obtain ⟨p, b⟩ := s
  dsimp only at hb h0 ⊢
  subst hb
  have hn : numS (p, false) = numTo p := rfl
  unfold textS
  rw [hn]
  unfold numTo
  cases hr : rd 0 p with
  | none => dsimp only; rw [if_pos rfl]; exact ⟨h0, fun _ => rfl⟩
  | some x =>
    obtain ⟨n, r⟩ := x
    obtain ⟨k, rfl, hk⟩ := rd_behind hr
    dsimp only
    rw [if_neg (by simp)]
    by_cases hl : (p.drop (k + 1)).length < n
    · rw [if_pos hl]; exact ⟨h0, fun _ => rfl⟩
    · rw [if_neg hl]
      dsimp only
      refine ⟨?_, fun e => by cases e⟩
      rw [List.length_drop, List.length_drop]
      omega
theorem splitGo_more : ∀ (k : Nat) (s : St) (out : List Bytes), s.2 = false ∨ s.1 = [] → s.1.length ≤ k → ∀ d, splitGo (k + d) s out = splitGo k s out ∧ (splitGo k s out).2.1 = []
  | 0, s, out, _, hk, d => by
    obtain ⟨p, b⟩ := s
    have : p = [] := List.eq_nil_of_length_eq_zero (Nat.le_zero.1 hk)
    subst this
    rw [splitGo_done, splitGo_done]
    exact ⟨rfl, rfl⟩
  | k + 1, s, out, hb, hk, d => by
    by_cases h0 : s.1.length = 0
    · obtain ⟨p, b⟩ := s
      have : p = [] := List.eq_nil_of_length_eq_zero h0
      subst this
      rw [splitGo_done, splitGo_done]
      exact ⟨rfl, rfl⟩
    · have hb' : s.2 = false := by
        rcases hb with hb | hb
        · exact hb
        · rw [hb] at h0; exact absurd rfl h0
      obtain ⟨h1, h2⟩ := textS_less (by omega) hb'
      rw [show k + 1 + d = (k + d) + 1 from by omega]
      unfold splitGo
      simp only [if_neg h0]
      refine splitGo_more k (textS s).2 _ ?_ (by omega) d
      cases hc : (textS s).2.2 with
      | false => exact .inl rfl
      | true => exact .inr (h2 hc)

/-! parts -/
theorem npart_pos (n : Nat) : 1 ≤ npart n := by unfold npart; omega
theorem npart_le {n k : Nat} (h : n ≤ 104 * k) (hk : 1 ≤ k) : npart n ≤ k := by unfold npart; omega
theorem npart_mono {a b : Nat} (h : a ≤ b) : npart a ≤ npart b := by unfold npart; omega
theorem partP_len (p : Bytes) (i : Nat) : (partP p i).length = min 104 (p.length - 104 * i) := by unfold partP; rw [List.length_take, List.length_drop]
theorem partP_full {p : Bytes} {i : Nat} (h : i + 1 < npart p.length) : (partP p i).length = 104 := by rw [partP_len]; unfold npart at h; omega
theorem take_part (p : Bytes) (i : Nat) : p.take (104 * i) ++ partP p i = p.take (104 * (i + 1)) := by
  unfold partP
  rw [show 104 * (i + 1) = 104 * i + 104 from by omega, List.take_add]
theorem take_parts (p : Bytes) : p.take (104 * npart p.length) = p := List.take_of_length_le (by unfold npart; omega)

/-! a scroll -/
structure Scr where
  sl : Sl
  size : Nat
  root : RootD
  next : Nat
  snap : Bytes
  recs : List Bytes
  down : Bool
def fitsS (s : Sl) (size : Int) : Nat := if size < 1 ∨ 4096 < size ∨ (s.done.length : Int) < 2 + 2 * size then 1 else 0
def areaN (size area at' : Nat) : Nat := 2 + area * size + at'
def partB (r : RootD) (at' : Nat) (p : Bytes) (i : Nat) : BlkD := ⟨if i + 1 = npart p.length then 3 else 2, r.epoch, r.gen, at' + i, partP p i⟩
def putParts (s : Sl) (size : Nat) (r : RootD) (at' : Nat) (p : Bytes) : Nat → Sl × Nat
  | 0 => (s, 0)
  | k + 1 => thenS (putParts s size r at' p k) fun s' => putB s' ((areaN size r.area (at' + k) : Nat) : Int) (partB r at' p k)
def putS (s : Sl) (size : Nat) (r : RootD) (at' : Nat) (p : Bytes) : Sl × Nat := thenS (putParts s size r at' p (npart p.length)) flushL
def formatS (s : Sl) (size : Int) (snap : Bytes) : Sl × Nat :=
  if fitsS s size ≠ 0 then (s, fitsS s size) else if size < partsL [snap] then (s, 8) else
    thenS (putS s size.toNat ⟨1, 0, 1, 0⟩ 0 (joinL [snap])) fun s' => storeB s' ⟨1, 0, 1, 0⟩
structure Rd where
  next : Nat
  epoch : Nat
  p : Bytes
  out : List (List Bytes)
def seeA (s : Sl) (size area : Nat) (at' : Nat) : BlkD × Nat := getB s ((areaN size area at' : Nat) : Int)
/-- a block that goes on -/
def goodA (G : Nat → BlkD × Nat) (gen at' : Nat) (q : Rd) : Bool :=
  decide ((G at').2 = 0) && (decide ((G at').1.kind = 2 ∨ (G at').1.kind = 3) && (decide ((G at').1.a = gen) && (decide ((G at').1.b = at') && (decide (q.epoch ≤ (G at').1.epoch) && (decide (q.next < at' → (G at').1.epoch = q.epoch) && decide ((G at').1.kind = 2 → (G at').1.data.length = 104))))))
theorem goodA_iff {G : Nat → BlkD × Nat} {gen at' : Nat} {q : Rd} {b : BlkD} {e : Nat} (h : G at' = (b, e)) : goodA G gen at' q = true ↔ e = 0 ∧ (b.kind = 2 ∨ b.kind = 3) ∧ b.a = gen ∧ b.b = at' ∧ q.epoch ≤ b.epoch ∧ (q.next < at' → b.epoch = q.epoch) ∧ (b.kind = 2 → b.data.length = 104) := by
  unfold goodA
  rw [h]
  simp only [Bool.and_eq_true, decide_eq_true_eq]
def stepRd (G : Nat → BlkD × Nat) (gen at' : Nat) (q : Rd) : Option Rd :=
  if goodA G gen at' q then
    (if (G at').1.kind = 2 then some ⟨q.next, (G at').1.epoch, q.p ++ (G at').1.data, q.out⟩
    else if (splitL (q.p ++ (G at').1.data)).2 = false ∨ (q.next = 0 ∧ (splitL (q.p ++ (G at').1.data)).1.length ≠ 1) then none
    else some ⟨at' + 1, (G at').1.epoch, [], q.out ++ [(splitL (q.p ++ (G at').1.data)).1]⟩)
  else none
def readGo (G : Nat → BlkD × Nat) (gen : Nat) : Nat → Nat → Rd → Rd
  | 0, _, q => q
  | k + 1, a, q => match stepRd G gen a q with
    | none => q
    | some q' => readGo G gen k (a + 1) q'
def readG (G : Nat → BlkD × Nat) (gen size : Nat) : Rd := readGo G gen size 0 ⟨0, 0, [], []⟩
def readS (s : Sl) (size : Nat) (r : RootD) : Rd := readG (seeA s size r.area) r.gen size
def nextR (r : RootD) : RootD := ⟨r.turn + 1, r.epoch + 1, r.gen, r.area⟩
def openS (s : Sl) (size : Int) : Sl × Option Scr × Nat :=
  if fitsS s size ≠ 0 then (s, none, fitsS s size) else if (loadB s).2 ≠ 0 then (s, none, (loadB s).2)
  else if (readS s size.toNat (loadB s).1).out.length = 0 then (s, none, 4)
  else if (loadB s).1.epoch = 4294967295 ∨ (loadB s).1.turn = 4294967295 then (s, none, 8)
  else if (storeB s (nextR (loadB s).1)).2 ≠ 0 then ((storeB s (nextR (loadB s).1)).1, none, (storeB s (nextR (loadB s).1)).2)
  else ((storeB s (nextR (loadB s).1)).1, some ⟨(storeB s (nextR (loadB s).1)).1, size.toNat, nextR (loadB s).1, (readS s size.toNat (loadB s).1).next, ((readS s size.toNat (loadB s).1).out.headD []).headD [], ((readS s size.toNat (loadB s).1).out.drop 1).flatten, false⟩, 0)
def addS (c : Scr) (l : List Bytes) : Scr × Nat :=
  if c.down || c.sl.off then ({ c with down := true }, 13) else if l.length = 0 then (c, 1) else if c.size - c.next < partsL l then (c, 8)
  else if (putS c.sl c.size c.root c.next (joinL l)).2 ≠ 0 then ({ c with sl := (putS c.sl c.size c.root c.next (joinL l)).1, down := true }, (putS c.sl c.size c.root c.next (joinL l)).2)
  else ({ c with sl := (putS c.sl c.size c.root c.next (joinL l)).1, next := c.next + partsL l, recs := c.recs ++ l }, 0)
def turnR (r : RootD) : RootD := ⟨r.turn + 1, r.epoch, r.gen + 1, 1 - r.area⟩
def compS (c : Scr) (p : Bytes) : Scr × Nat :=
  if c.down || c.sl.off then ({ c with down := true }, 13) else if c.size < partsL [p] ∨ c.root.gen = 4294967295 ∨ c.root.turn = 4294967295 then (c, 8)
  else if (thenS (putS c.sl c.size (turnR c.root) 0 (joinL [p])) fun s => storeB s (turnR c.root)).2 ≠ 0 then ({ c with sl := (thenS (putS c.sl c.size (turnR c.root) 0 (joinL [p])) fun s => storeB s (turnR c.root)).1, down := true }, (thenS (putS c.sl c.size (turnR c.root) 0 (joinL [p])) fun s => storeB s (turnR c.root)).2)
  else (⟨(thenS (putS c.sl c.size (turnR c.root) 0 (joinL [p])) fun s => storeB s (turnR c.root)).1, c.size, turnR c.root, partsL [p], p, [], false⟩, 0)

/-! what stands there, read -/
def AtB (G : Nat → BlkD × Nat) (gen a e : Nat) (l : List Bytes) : Prop := ∀ i, i < partsL l → G (a + i) = (partB ⟨0, e, gen, 0⟩ a (joinL l) i, 0)
abbrev Bat := Nat × List Bytes
def lenB : List Bat → Nat
  | [] => 0
  | b :: bs => partsL b.2 + lenB bs
theorem lenB_cons (b : Bat) (bs : List Bat) : lenB (b :: bs) = partsL b.2 + lenB bs := rfl
theorem lenB_append (a b : List Bat) : lenB (a ++ b) = lenB a + lenB b := by
  induction a with
  | nil => simp [lenB]
  | cons x a ih => rw [List.cons_append, lenB_cons, lenB_cons, ih]; omega
def Stands (G : Nat → BlkD × Nat) (gen : Nat) : List Bat → Nat → Prop
  | [], _ => True
  | b :: bs, a => AtB G gen a b.1 b.2 ∧ Stands G gen bs (a + partsL b.2)
theorem Stands.snoc {G : Nat → BlkD × Nat} {gen : Nat} : ∀ {bs : List Bat} {a : Nat} {b : Bat}, Stands G gen bs a → AtB G gen (a + lenB bs) b.1 b.2 → Stands G gen (bs ++ [b]) a
  | [], a, b, _, h => ⟨h, trivial⟩
  | x :: bs, a, b, hs, h => ⟨hs.1, Stands.snoc hs.2 (by rw [lenB_cons, ← Nat.add_assoc] at h; exact h)⟩
theorem Stands.keep {G G' : Nat → BlkD × Nat} {gen : Nat} : ∀ {bs : List Bat} {a : Nat}, Stands G gen bs a → (∀ i, a ≤ i → i < a + lenB bs → G' i = G i) → Stands G' gen bs a
  | [], _, _, _ => trivial
  | x :: bs, a, hs, h => ⟨fun i hi => by rw [h _ (by omega) (by rw [lenB_cons]; omega)]; exact hs.1 i hi, Stands.keep hs.2 fun i h1 h2 => h i (by omega) (by rw [lenB_cons]; omega)⟩
/-- one batch is read -/
theorem read_batch {G : Nat → BlkD × Nat} {gen a e e0 : Nat} {l : List Bytes} {out : List (List Bytes)} (h : AtB G gen a e l) (he : e0 ≤ e) (h1 : a = 0 → l.length = 1) (hl : ∀ t ∈ l, t.length < 18446744073709551616) (k : Nat) :
    ∀ d i, i + (d + 1) = partsL l → readGo G gen (d + 1 + k) (a + i) ⟨a, if i = 0 then e0 else e, (joinL l).take (104 * i), out⟩ = readGo G gen k (a + partsL l) ⟨a + partsL l, e, [], out ++ [l]⟩ := by
  intro d
  induction d with
  | zero =>
    intro i hi
    have hG := h i (by omega)
    rw [show 0 + 1 + k = k + 1 from by omega]
    have hst : stepRd G gen (a + i) ⟨a, if i = 0 then e0 else e, (joinL l).take (104 * i), out⟩ = some ⟨a + i + 1, e, [], out ++ [l]⟩ := by
      have hk : (partB ⟨0, e, gen, 0⟩ a (joinL l) i).kind = 3 := by unfold partB; dsimp only; rw [if_pos (by exact hi)]
      have hd : (joinL l).take (104 * i) ++ partP (joinL l) i = joinL l := by rw [take_part, show i + 1 = npart (joinL l).length from hi, take_parts]
      unfold stepRd
      have hgood : goodA G gen (a + i) ⟨a, if i = 0 then e0 else e, (joinL l).take (104 * i), out⟩ = true := by
        refine (goodA_iff hG).2 ⟨rfl, .inr hk, rfl, rfl, ?_, ?_, fun h3 => by rw [hk] at h3; omega⟩
        · show (if i = 0 then e0 else e) ≤ e; split <;> omega
        · intro hh
          have hh : a < a + i := hh
          show e = if i = 0 then e0 else e
          rw [if_neg (by omega)]
      rw [if_pos hgood, hG]
      dsimp only
      rw [if_neg (by rw [hk]; omega), show (partB ⟨0, e, gen, 0⟩ a (joinL l) i).data = partP (joinL l) i from rfl, hd, split_join hl]
      rw [if_neg (by
        rintro (h2 | h2)
        · cases h2
        · exact h2.2 (h1 h2.1))]
      rfl
    conv => lhs; unfold readGo
    rw [hst]
    dsimp only
    rw [show a + i + 1 = a + partsL l from by omega]
  | succ d ih =>
    intro i hi
    have hG := h i (by omega)
    have hst : stepRd G gen (a + i) ⟨a, if i = 0 then e0 else e, (joinL l).take (104 * i), out⟩ = some ⟨a, if i + 1 = 0 then e0 else e, (joinL l).take (104 * (i + 1)), out⟩ := by
      have hk : (partB ⟨0, e, gen, 0⟩ a (joinL l) i).kind = 2 := by unfold partB; dsimp only; rw [if_neg (by show ¬ i + 1 = partsL l; omega)]
      unfold stepRd
      have hgood : goodA G gen (a + i) ⟨a, if i = 0 then e0 else e, (joinL l).take (104 * i), out⟩ = true := by
        refine (goodA_iff hG).2 ⟨rfl, .inl hk, rfl, rfl, ?_, ?_, fun _ => ?_⟩
        · show (if i = 0 then e0 else e) ≤ e; split <;> omega
        · intro hh
          have hh : a < a + i := hh
          show e = if i = 0 then e0 else e
          rw [if_neg (by omega)]
        · exact partP_full (show i + 1 < partsL l by omega)
      rw [if_pos hgood, hG]
      dsimp only
      rw [if_pos hk, show (partB ⟨0, e, gen, 0⟩ a (joinL l) i).data = partP (joinL l) i from rfl, take_part, if_neg (by omega)]
      rfl
    rw [show d + 1 + 1 + k = (d + 1 + k) + 1 from by omega]
    conv => lhs; unfold readGo
    rw [hst]
    dsimp only
    exact ih (i + 1) (by omega)
/-- nothing goes on at a place -/
def StopsAt (G : Nat → BlkD × Nat) (gen a : Nat) : Prop := (G a).2 ≠ 0 ∨ (G a).1.a ≠ gen
theorem StopsAt.step {G : Nat → BlkD × Nat} {gen a : Nat} (h : StopsAt G gen a) (q : Rd) : stepRd G gen a q = none := by
  have : goodA G gen a q = false := by
    unfold goodA
    rcases h with h | h
    · rw [decide_eq_false h]; rfl
    · simp only [decide_eq_false h, Bool.false_and, Bool.and_false]
  unfold stepRd
  rw [this]
  rfl
def Rises : Nat → List Bat → Prop
  | _, [] => True
  | e, b :: bs => e ≤ b.1 ∧ Rises b.1 bs
def lastE : Nat → List Bat → Nat
  | e, [] => e
  | _, b :: bs => lastE b.1 bs
theorem Rises.snoc : ∀ {bs : List Bat} {e : Nat} {b : Bat}, Rises e bs → lastE e bs ≤ b.1 → Rises e (bs ++ [b])
  | [], _, _, _, h => ⟨h, trivial⟩
  | _ :: _, _, _, hs, h => ⟨hs.1, Rises.snoc hs.2 h⟩
theorem lastE_snoc : ∀ (bs : List Bat) (e : Nat) (b : Bat), lastE e (bs ++ [b]) = b.1
  | [], _, _ => rfl
  | x :: bs, _, b => lastE_snoc bs x.1 b
theorem read_all {G : Nat → BlkD × Nat} {gen : Nat} : ∀ (bs : List Bat) (a e0 : Nat) (out : List (List Bytes)) (k : Nat), Stands G gen bs a → Rises e0 bs → (∀ b ∈ bs, ∀ t ∈ b.2, t.length < 18446744073709551616) → (a = 0 → ∀ b, bs.head? = some b → b.2.length = 1) →
    (k = 0 ∨ StopsAt G gen (a + lenB bs)) → readGo G gen (lenB bs + k) a ⟨a, e0, [], out⟩ = ⟨a + lenB bs, lastE e0 bs, [], out ++ bs.map Prod.snd⟩
  | [], a, e0, out, k, _, _, _, _, hk => by
    rw [show lenB [] = 0 from rfl, Nat.zero_add, List.map_nil, List.append_nil]
    show readGo G gen k a ⟨a, e0, [], out⟩ = ⟨a, e0, [], out⟩
    rcases hk with rfl | hk
    · rfl
    · cases k with
      | zero => rfl
      | succ k => unfold readGo; rw [(show StopsAt G gen a from hk).step]
  | b :: bs, a, e0, out, k, hs, hr, hl, h1, hk => by
    have hp := npart_pos (joinL b.2).length
    have := read_batch (out := out) hs.1 hr.1 (fun h => h1 h b rfl) (hl b (List.mem_cons_self ..)) (lenB bs + k) (partsL b.2 - 1) 0 (by have : 1 ≤ partsL b.2 := hp; omega)
    rw [show partsL b.2 - 1 + 1 + (lenB bs + k) = lenB (b :: bs) + k from by rw [lenB_cons]; have : 1 ≤ partsL b.2 := hp; omega, if_pos rfl, Nat.mul_zero, List.take_zero, Nat.add_zero] at this
    rw [this, read_all bs (a + partsL b.2) b.1 (out ++ [b.2]) k hs.2 hr.2 (fun x hx => hl x (List.mem_cons_of_mem _ hx)) (fun h => by have : 1 ≤ partsL b.2 := hp; omega) (by
      rcases hk with hk | hk
      · exact .inl hk
      · exact .inr (by rw [lenB_cons, ← Nat.add_assoc] at hk; exact hk))]
    rw [List.map_cons, List.append_assoc, show a + partsL b.2 + lenB bs = a + lenB (b :: bs) from by rw [lenB_cons]; omega]
    rfl
end Go.Proofs.YtoapibbbooongaaDoor
