/- Plain: images of jobs on a slab. (Several texts in one: ImgM, ImgP, ImgQ, ImgR, ImgT, MapOf.) -/
import Derived.Test.YtoapibbbooongaaDoorBlkMath
import Derived.Test.YtoapibbbooongaaDoorLib
import Derived.Maps.OwnSet
import Derived.Maps.Own

/- Plain: images of jobs on a slab. -/
namespace Go.Proofs.YtoapibbbooongaaDoor
open Go.RowKit Go.Quad _root_.Quad _root_.Quad.Slab

structure Img where
  job : Nat
  ver : Nat
  credit : Int
  blobs : List (List UInt8)
  at' : List Nat
def imgZ : Img := ⟨0, 0, 0, [], []⟩

/-! a list by rising keys -/
def stepK {α : Type} (key : α → Nat) (x : α) (p : List α × Bool) (y : α) : List α × Bool :=
  ((if p.2 = false ∧ key x ≤ key y then p.1 ++ [x] else p.1) ++ (if key y = key x then [] else [y]), p.2 || decide (key x ≤ key y))
def goK {α : Type} (key : α → Nat) (x : α) (L : List α) : List α × Bool := L.foldl (stepK key x) ([], false)
def setK {α : Type} (key : α → Nat) (x : α) (L : List α) : List α := if (goK key x L).2 then (goK key x L).1 else (goK key x L).1 ++ [x]
theorem foldK_done {α : Type} (key : α → Nat) (x : α) : ∀ (L : List α) (out : List α), (∀ y ∈ L, key x < key y) → L.foldl (stepK key x) (out, true) = (out ++ L, true)
  | [], out, _ => by simp
  | y :: L, out, h => by
    have hy := h y (List.mem_cons_self ..)
    rw [List.foldl_cons]
    have e : stepK key x (out, true) y = (out ++ [y], true) := by
      unfold stepK
      simp only [Bool.true_eq_false, false_and, if_false, Bool.true_or]
      rw [if_neg (by omega)]
    rw [e, foldK_done key x L _ fun z hz => h z (List.mem_cons_of_mem _ hz)]
    simp
theorem foldK {α : Type} (key : α → Nat) (x : α) : ∀ (L : List α) (out : List α), L.Pairwise (fun a b => key a < key b) →
    (if (L.foldl (stepK key x) (out, false)).2 then (L.foldl (stepK key x) (out, false)).1 else (L.foldl (stepK key x) (out, false)).1 ++ [x]) = out ++ (L.filter (fun y => decide (key y < key x)) ++ x :: L.filter (fun y => decide (key x < key y)))
  | [], out, _ => by simp
  | y :: L, out, h => by
    obtain ⟨h1, h2⟩ := List.pairwise_cons.1 h
    rw [List.foldl_cons]
    by_cases e : key x ≤ key y
    · have hL : ∀ z ∈ L, key x < key z := fun z hz => by have := h1 z hz; omega
      have e1 : stepK key x (out, false) y = (out ++ [x] ++ (if key y = key x then [] else [y]), true) := by
        unfold stepK
        rw [if_pos ⟨rfl, e⟩, decide_eq_true e]
        rfl
      rw [e1, foldK_done key x L _ hL, if_pos rfl]
      have f1 : L.filter (fun y => decide (key y < key x)) = [] := List.filter_eq_nil_iff.2 fun z hz => by have := hL z hz; rw [decide_eq_true_eq]; omega
      have f2 : L.filter (fun y => decide (key x < key y)) = L := List.filter_eq_self.2 fun z hz => by simpa using hL z hz
      rw [List.filter_cons_of_neg (by rw [decide_eq_true_eq]; omega), f1]
      by_cases q : key y = key x
      · rw [List.filter_cons_of_neg (by rw [decide_eq_true_eq]; omega), f2, if_pos q]; simp
      · rw [List.filter_cons_of_pos (by rw [decide_eq_true_eq]; omega), f2, if_neg q]; simp
    · have e1 : stepK key x (out, false) y = (out ++ [y], false) := by
        unfold stepK
        rw [if_neg (fun h => e h.2), decide_eq_false e, if_neg (by omega)]
        rfl
      rw [e1, foldK key x L _ h2, List.filter_cons_of_pos (by rw [decide_eq_true_eq]; omega), List.filter_cons_of_neg (by rw [decide_eq_true_eq]; omega)]
      simp
theorem setK_eq {α : Type} (key : α → Nat) (x : α) {L : List α} (h : L.Pairwise (fun a b => key a < key b)) :
    setK key x L = L.filter (fun y => decide (key y < key x)) ++ x :: L.filter (fun y => decide (key x < key y)) := by
  have := foldK key x L [] h
  unfold setK goK
  simpa using this
theorem setK_mem {α : Type} (key : α → Nat) (x : α) {L : List α} (h : L.Pairwise (fun a b => key a < key b)) (z : α) : z ∈ setK key x L ↔ z = x ∨ (z ∈ L ∧ key z ≠ key x) := by
  rw [setK_eq key x h]
  simp only [List.mem_append, List.mem_cons, List.mem_filter, decide_eq_true_eq]
  constructor
  · rintro (⟨h1, h2⟩ | rfl | ⟨h1, h2⟩)
    · exact .inr ⟨h1, by omega⟩
    · exact .inl rfl
    · exact .inr ⟨h1, by omega⟩
  · rintro (rfl | ⟨h1, h2⟩)
    · exact .inr (.inl rfl)
    · by_cases e : key z < key x
      · exact .inl ⟨h1, e⟩
      · exact .inr (.inr ⟨h1, by omega⟩)
theorem setK_sorted {α : Type} (key : α → Nat) (x : α) {L : List α} (h : L.Pairwise (fun a b => key a < key b)) : (setK key x L).Pairwise (fun a b => key a < key b) := by
  rw [setK_eq key x h, List.pairwise_append]
  refine ⟨h.filter _, List.pairwise_cons.2 ⟨fun z hz => by simpa using (List.mem_filter.1 hz).2, h.filter _⟩, fun a ha b hb => ?_⟩
  have h1 : key a < key x := by simpa using (List.mem_filter.1 ha).2
  rcases List.mem_cons.1 hb with rfl | hb
  · exact h1
  · have h2 : key x < key b := by simpa using (List.mem_filter.1 hb).2
    omega
theorem setK_map {α β : Type} (f : α → β) (ka : α → Nat) (kb : β → Nat) (hk : ∀ a, kb (f a) = ka a) (x : α) {L : List α} (h : L.Pairwise (fun a b => ka a < ka b)) : (setK ka x L).map f = setK kb (f x) (L.map f) := by
  have h' : (L.map f).Pairwise (fun a b => kb a < kb b) := by rw [List.pairwise_map]; simpa only [hk] using h
  rw [setK_eq ka x h, setK_eq kb (f x) h', List.map_append, List.map_cons, List.filter_map, List.filter_map]
  simp only [Function.comp_def, hk]

/-! what stands on the slab -/
def creditOf (d : List UInt8) : Nat := (d.getD 0 0).toNat + 256 * (d.getD 1 0).toNat + 65536 * (d.getD 2 0).toNat + 16777216 * (d.getD 3 0).toNat
def countOf (d : List UInt8) : Nat := (d.getD 4 0).toNat
def placeOf (d : List UInt8) (i : Nat) : Nat := (d.getD (5 + 2 * i) 0).toNat + 256 * (d.getD (5 + 2 * i + 1) 0).toNat
def blobOk (h : BlkD) (rank : Nat) (b : BlkD × Nat) : Bool :=
  decide (b.2 = 0) && (decide (b.1.kind = 5) && (decide (b.1.epoch = h.epoch) && (decide (b.1.a = h.a) && (decide (b.1.b = h.b) && (decide (b.1.data.length ≠ 0) && decide ((b.1.data.getD 0 0).toNat = rank))))))
/-- what the places read as -/
def seeG (s : Sl) (f : Nat) (i : Nat) : BlkD × Nat := getB s ((f + i : Nat) : Int)
/-- the blob of a rank at a place -/
def blobI (G : Nat → BlkD × Nat) (n : Nat) (h : BlkD) (at' rank : Nat) : Option (List UInt8) :=
  if n ≤ at' then none else if blobOk h rank (G at') then some ((G at').1.data.drop 1) else none
def blobsI (G : Nat → BlkD × Nat) (n : Nat) (h : BlkD) : Nat → Option (List (List UInt8))
  | 0 => some []
  | k + 1 => (blobsI G n h k).bind fun l => (blobI G n h (placeOf h.data k) k).map fun b => l ++ [b]
def headOk (h : BlkD) : Bool :=
  decide (h.kind = 6) && (decide (h.a ≠ 0) && (decide (5 ≤ h.data.length) && (decide (creditOf h.data ≤ 10000) && (decide (1 ≤ countOf h.data) && (decide (countOf h.data ≤ 16) && decide (h.data.length = 5 + 2 * countOf h.data))))))
/-- the image whose head that is -/
def imageI (G : Nat → BlkD × Nat) (n : Nat) (h : BlkD) (at' : Nat) : Option Img :=
  if headOk h then (blobsI G n h (countOf h.data)).map fun l => ⟨h.a, h.b, (creditOf h.data : Int), l, (List.range (countOf h.data)).map (placeOf h.data) ++ [at']⟩ else none
/-- the image whose head stands at a place -/
def thereI (G : Nat → BlkD × Nat) (n at' : Nat) : Option Img := if (G at').2 ≠ 0 then none else imageI G n (G at').1 at'
def findI (L : List Img) (job : Nat) : Option Img := L.find? (fun x => x.job == job)
def addI (L : List Img) (x : Option Img) : List Img :=
  match x with
  | none => L
  | some x => match findI L x.job with
    | none => setK Img.job x L
    | some y => if y.ver < x.ver then setK Img.job x L else L
def listI (G : Nat → BlkD × Nat) (n k : Nat) : List Img := (List.range k).foldl (fun L a => addI L (thereI G n a)) []
theorem listI_succ (G : Nat → BlkD × Nat) (n k : Nat) : listI G n (k + 1) = addI (listI G n k) (thereI G n k) := by unfold listI; rw [List.range_succ, List.foldl_append]; rfl
def usedI (n : Nat) (L : List Img) : List Bool := (List.range n).map fun i => L.any fun x => x.at'.contains i

/-- a part of a slab -/
structure Im where
  sl : Sl
  from' : Nat
  epoch : Nat
  L : List Img
  used : List Bool
  down : Bool
def openI (s : Sl) (a b : Int) (e : Nat) : Option Im × Nat :=
  if a < 0 ∨ b ≤ a ∨ (s.done.length : Int) < b then (none, 1) else if s.off then (none, 13) else
    (some ⟨s, a.toNat, e, listI (seeG s a.toNat) (b - a).toNat (b - a).toNat, usedI (b - a).toNat (listI (seeG s a.toNat) (b - a).toNat (b - a).toNat), false⟩, 0)
def readyI (c : Im) : Im × Nat := if c.down || c.sl.off then ({ c with down := true }, 13) else (c, 0)
def rightI (x : Img) : Nat := if x.job = 0 ∨ x.credit < 0 ∨ 10000 < x.credit ∨ x.blobs.length < 1 ∨ 16 < x.blobs.length then 1 else if x.blobs.any (fun b => decide (103 < b.length)) then 3 else 0
/-! the image's blocks, one by one -/
def blobB (e : Nat) (x : Img) (k : Nat) : BlkD := ⟨5, e, x.job, x.ver, UInt8.ofNat k :: x.blobs.getD k []⟩
def headD (x : Img) (k : Nat) : List UInt8 := [UInt8.ofNat x.credit.toNat, UInt8.ofNat (x.credit.toNat / 256), 0, 0, UInt8.ofNat x.blobs.length] ++ (x.at'.take k).flatMap fun i => [UInt8.ofNat i, UInt8.ofNat (i / 256)]
def headB' (e : Nat) (x : Img) : BlkD := ⟨6, e, x.job, x.ver, headD x x.blobs.length⟩
def wrBlobs (f e : Nat) (x : Img) (s : Sl) : Nat → Sl × Nat
  | 0 => (s, 0)
  | k + 1 => if (wrBlobs f e x s k).2 ≠ 0 then wrBlobs f e x s k else putB (wrBlobs f e x s k).1 ((f + x.at'.getD k 0 : Nat) : Int) (blobB e x k)
def thenS (p : Sl × Nat) (g : Sl → Sl × Nat) : Sl × Nat := if p.2 ≠ 0 then p else g p.1
def writeI (f e : Nat) (x : Img) (s : Sl) : Sl × Nat :=
  thenS (thenS (thenS (wrBlobs f e x s x.blobs.length) flushL) fun s => putB s ((f + x.at'.getD x.blobs.length 0 : Nat) : Int) (headB' e x)) flushL
def freeI (used : List Bool) (l : List Nat) : List Bool := l.foldl (fun m i => m.set i false) used
def atI (L : List Img) (job : Nat) : List Nat := match findI L job with | none => [] | some y => y.at'
def takenI (used : List Bool) (k : Nat) : List Nat := (freeP used used.length).take k
def markI (used : List Bool) (l : List Nat) : List Bool := l.foldl (fun m i => m.set i true) used
/-- its sectors are chosen -/
def placedI (c : Im) (x : Img) : Img := { x with at' := takenI c.used (x.blobs.length + 1) }
def putI (c : Im) (x : Img) : Im × Nat :=
  if c.down || c.sl.off then ({ c with down := true }, 13)
  else if rightI x ≠ 0 then (c, rightI x)
  else if (match findI c.L x.job with | none => false | some y => decide (x.ver ≤ y.ver)) then (c, 12)
  else if leftM c.used < x.blobs.length + 1 then (c, 8)
  else if (writeI c.from' c.epoch (placedI c x) c.sl).2 ≠ 0 then
    ({ c with sl := (writeI c.from' c.epoch (placedI c x) c.sl).1, used := markI c.used (takenI c.used (x.blobs.length + 1)), down := true }, (writeI c.from' c.epoch (placedI c x) c.sl).2)
  else ({ c with sl := (writeI c.from' c.epoch (placedI c x) c.sl).1, used := freeI (markI c.used (takenI c.used (x.blobs.length + 1))) (atI c.L x.job), L := setK Img.job (placedI c x) c.L }, 0)
def getI (c : Im) (job : Nat) : Img × Nat := match findI c.L job with | none => (imgZ, 6) | some x => (x, 0)
def dropS (c : Im) (x : Img) : Sl × Nat := thenS (writeL c.sl ((c.from' + x.at'.getD (x.at'.length - 1) 0 : Nat) : Int) []) flushL
def dropI (c : Im) (job : Nat) : Im × Nat :=
  if c.down || c.sl.off then ({ c with down := true }, 13)
  else match findI c.L job with
    | none => (c, 6)
    | some x => if (dropS c x).2 ≠ 0 then ({ c with sl := (dropS c x).1, down := true }, (dropS c x).2)
      else ({ c with sl := (dropS c x).1, used := freeI c.used x.at', L := c.L.filter fun y => y.job != job }, 0)
end Go.Proofs.YtoapibbbooongaaDoor

/- Plain: what is put is there behind the next opening. -/
namespace Go.Proofs.YtoapibbbooongaaDoor
open Go.RowKit Go.Quad _root_.Quad _root_.Quad.Slab

theorem getD_l {α : Type} {a b : List α} {i : Nat} {d : α} (h : i < a.length) : (a ++ b).getD i d = a.getD i d := by rw [List.getD_eq_getElem?_getD, List.getElem?_append_left h, ← List.getD_eq_getElem?_getD]
theorem getD_r {α : Type} {a b : List α} {i : Nat} {d : α} (h : a.length ≤ i) : (a ++ b).getD i d = b.getD (i - a.length) d := by rw [List.getD_eq_getElem?_getD, List.getElem?_append_right h, ← List.getD_eq_getElem?_getD]
theorem getD_in {α : Type} {a : List α} {i : Nat} {d : α} (h : i < a.length) : a.getD i d = a[i] := by rw [List.getD_eq_getElem?_getD, List.getElem?_eq_getElem h]; rfl
/-! blobs, one by one -/
theorem blobsI_some {G : Nat → BlkD × Nat} {n : Nat} {h : BlkD} : ∀ {k : Nat} {l : List (List UInt8)}, blobsI G n h k = some l ↔ l.length = k ∧ ∀ j, j < k → blobI G n h (placeOf h.data j) j = some (l.getD j [])
  | 0, l => by
    unfold blobsI
    constructor
    · intro e; cases e; exact ⟨rfl, fun j hj => by omega⟩
    · rintro ⟨e, _⟩; rw [List.length_eq_zero_iff.1 e]
  | k + 1, l => by
    unfold blobsI
    constructor
    · intro e
      cases h1 : blobsI G n h k with
      | none => rw [h1] at e; cases e
      | some l' =>
        rw [h1] at e
        cases h2 : blobI G n h (placeOf h.data k) k with
        | none => rw [h2] at e; cases e
        | some b =>
          rw [h2] at e
          simp only [Option.bind_some, Option.map_some, Option.some.injEq] at e
          obtain ⟨h3, h4⟩ := blobsI_some.1 h1
          subst e
          refine ⟨by simp [h3], fun j hj => ?_⟩
          rcases Nat.lt_or_ge j k with h5 | h5
          · rw [h4 j h5, getD_l (by omega)]
          · obtain rfl : j = k := by omega
            rw [h2, getD_r (by omega), h3, Nat.sub_self]; rfl
    · rintro ⟨h1, h2⟩
      have h3 : blobsI G n h k = some (l.take k) := blobsI_some.2 ⟨by rw [List.length_take]; omega, fun j hj => by
        rw [h2 j (by omega), List.getD_eq_getElem?_getD, List.getD_eq_getElem?_getD, List.getElem?_take_of_lt hj]⟩
      rw [h3, h2 k (by omega)]
      simp only [Option.bind_some, Option.map_some, Option.some.injEq]
      rw [getD_in (by omega), ← List.take_succ_eq_append_getElem (by omega), List.take_of_length_le (by omega)]
theorem blobsI_congr {G G' : Nat → BlkD × Nat} {n : Nat} {h : BlkD} : ∀ {k : Nat}, (∀ j, j < k → blobI G' n h (placeOf h.data j) j = blobI G n h (placeOf h.data j) j) → blobsI G' n h k = blobsI G n h k
  | 0, _ => rfl
  | k + 1, e => by
    unfold blobsI
    rw [blobsI_congr fun j hj => e j (by omega), e k (by omega)]
theorem headOk_iff {h : BlkD} : headOk h = true ↔ h.kind = 6 ∧ h.a ≠ 0 ∧ 5 ≤ h.data.length ∧ creditOf h.data ≤ 10000 ∧ 1 ≤ countOf h.data ∧ countOf h.data ≤ 16 ∧ h.data.length = 5 + 2 * countOf h.data := by
  unfold headOk
  simp only [Bool.and_eq_true, decide_eq_true_eq]
theorem there_some {G : Nat → BlkD × Nat} {n a : Nat} {x : Img} : thereI G n a = some x ↔ (G a).2 = 0 ∧ headOk (G a).1 = true ∧ ∃ l, blobsI G n (G a).1 (countOf (G a).1.data) = some l ∧ x = ⟨(G a).1.a, (G a).1.b, (creditOf (G a).1.data : Int), l, (List.range (countOf (G a).1.data)).map (placeOf (G a).1.data) ++ [a]⟩ := by
  unfold thereI imageI
  by_cases h0 : (G a).2 = 0
  · rw [if_neg (by simpa using h0)]
    by_cases h1 : headOk (G a).1 = true
    · rw [if_pos h1]
      cases h2 : blobsI G n (G a).1 (countOf (G a).1.data) with
      | none => simp
      | some l =>
        simp only [Option.map_some, Option.some.injEq, h0, h1, true_and, exists_eq_left']
        exact eq_comm
    · rw [if_neg h1]
      constructor
      · intro e; cases e
      · rintro ⟨_, e, _⟩; exact absurd e h1
  · rw [if_pos h0]
    constructor
    · intro e; cases e
    · rintro ⟨e, _⟩; exact absurd e h0
theorem there_kind {G : Nat → BlkD × Nat} {n a : Nat} {x : Img} (h : thereI G n a = some x) : (G a).2 = 0 ∧ (G a).1.kind = 6 ∧ x.job = (G a).1.a ∧ x.ver = (G a).1.b := by
  obtain ⟨h0, h1, l, _, rfl⟩ := there_some.1 h
  exact ⟨h0, (headOk_iff.1 h1).1, rfl, rfl⟩
/-- each of its places but the last holds a blob of it -/
theorem there_places {G : Nat → BlkD × Nat} {n a : Nat} {x : Img} (h : thereI G n a = some x) (ha : a < n) : a ∈ x.at' ∧ ∀ p ∈ x.at', p < n ∧ (p = a ∨ ((G p).2 = 0 ∧ (G p).1.kind = 5 ∧ (G p).1.a = x.job ∧ (G p).1.b = x.ver)) := by
  obtain ⟨h0, h1, l, h2, rfl⟩ := there_some.1 h
  refine ⟨by simp, fun p hp => ?_⟩
  rcases List.mem_append.1 hp with hp | hp
  · obtain ⟨j, hj, rfl⟩ := List.mem_map.1 hp
    have hj := List.mem_range.1 hj
    have h3 := (blobsI_some.1 h2).2 j hj
    unfold blobI at h3
    split at h3
    · cases h3
    · rename_i h4
      split at h3
      · rename_i h5
        unfold blobOk at h5
        simp only [Bool.and_eq_true, decide_eq_true_eq] at h5
        exact ⟨by omega, .inr ⟨h5.1, h5.2.1, h5.2.2.2.1, h5.2.2.2.2.1⟩⟩
      · cases h3
  · rw [List.mem_singleton] at hp
    subst hp
    exact ⟨ha, .inl rfl⟩
/-- what is elsewhere doesn't matter -/
theorem there_congr {G G' : Nat → BlkD × Nat} {n a : Nat} {x : Img} (h : thereI G n a = some x) (ha : a < n) (e : ∀ p ∈ x.at', G' p = G p) : thereI G' n a = some x := by
  have hpl := there_places h ha
  obtain ⟨h0, h1, l, h2, rfl⟩ := there_some.1 h
  have ea : G' a = G a := e a hpl.1
  refine there_some.2 ⟨by rw [ea]; exact h0, by rw [ea]; exact h1, l, ?_, by rw [ea]⟩
  rw [ea, ← h2]
  refine blobsI_congr fun j hj => ?_
  have : G' (placeOf (G a).1.data j) = G (placeOf (G a).1.data j) := e _ (List.mem_append_left _ (List.mem_map.2 ⟨j, List.mem_range.2 hj, rfl⟩))
  unfold blobI
  rw [this]

/-! a head's bytes -/
theorem flat2_get : ∀ (l : List Nat) (j : Nat), j < l.length → ((l.flatMap fun i => [UInt8.ofNat i, UInt8.ofNat (i / 256)]).getD (2 * j) 0 = UInt8.ofNat (l.getD j 0) ∧ (l.flatMap fun i => [UInt8.ofNat i, UInt8.ofNat (i / 256)]).getD (2 * j + 1) 0 = UInt8.ofNat (l.getD j 0 / 256))
  | [], j, h => by simp at h
  | x :: l, 0, _ => ⟨rfl, rfl⟩
  | x :: l, j + 1, h => by
    have := flat2_get l j (by simpa using h)
    rw [List.flatMap_cons, show 2 * (j + 1) = (2 * j) + 1 + 1 from by omega]
    exact this
theorem flat2_len : ∀ (l : List Nat), (l.flatMap fun i => [UInt8.ofNat i, UInt8.ofNat (i / 256)]).length = 2 * l.length
  | [] => rfl
  | x :: l => by rw [List.flatMap_cons, List.length_append, flat2_len l, List.length_cons]; show 2 + 2 * l.length = 2 * (l.length + 1); omega
theorem byte2 {n : Nat} (h : n < 65536) : (UInt8.ofNat n).toNat + 256 * (UInt8.ofNat (n / 256)).toNat = n := by
  simp only [UInt8.toNat_ofNat']
  omega
structure Img.Ok (x : Img) : Prop where
  job : 0 < x.job ∧ x.job < 4294967296
  ver : x.ver < 4294967296
  credit : 0 ≤ x.credit ∧ x.credit ≤ 10000
  few : 1 ≤ x.blobs.length ∧ x.blobs.length ≤ 16
  small : ∀ b ∈ x.blobs, b.length ≤ 103
  at' : x.at'.length = x.blobs.length + 1
  nodup : x.at'.Nodup
  wide : ∀ p ∈ x.at', p < 65536
theorem headD_len {x : Img} (h : x.Ok) : (headD x x.blobs.length).length = 5 + 2 * x.blobs.length := by
  unfold headD
  rw [List.length_append, flat2_len, List.length_take, h.at', Nat.min_eq_left (by omega)]
  rfl
theorem headD_count {x : Img} (h : x.Ok) : countOf (headD x x.blobs.length) = x.blobs.length := by
  show (UInt8.ofNat x.blobs.length).toNat = _
  have := h.few.2
  simp only [UInt8.toNat_ofNat']
  omega
theorem headD_credit {x : Img} (h : x.Ok) : (creditOf (headD x x.blobs.length) : Int) = x.credit := by
  have h1 := h.credit
  have h2 : creditOf (headD x x.blobs.length) = (UInt8.ofNat x.credit.toNat).toNat + 256 * (UInt8.ofNat (x.credit.toNat / 256)).toNat := by
    show (UInt8.ofNat x.credit.toNat).toNat + 256 * (UInt8.ofNat (x.credit.toNat / 256)).toNat + 65536 * (0 : UInt8).toNat + 16777216 * (0 : UInt8).toNat = _
    rfl
  rw [h2, byte2 (by omega)]
  omega
theorem headD_place {x : Img} (h : x.Ok) {j : Nat} (hj : j < x.blobs.length) : placeOf (headD x x.blobs.length) j = x.at'.getD j 0 := by
  have hl : j < (x.at'.take x.blobs.length).length := by rw [List.length_take, h.at']; omega
  have h1 := flat2_get (x.at'.take x.blobs.length) j hl
  have e : (x.at'.take x.blobs.length).getD j 0 = x.at'.getD j 0 := by rw [List.getD_eq_getElem?_getD, List.getD_eq_getElem?_getD, List.getElem?_take_of_lt hj]
  have hw : x.at'.getD j 0 < 65536 := by
    have hj' : j < x.at'.length := by rw [h.at']; omega
    rw [List.getD_eq_getElem?_getD, List.getElem?_eq_getElem hj']
    exact h.wide _ (List.getElem_mem hj')
  unfold placeOf
  have e1 : ∀ m, (headD x x.blobs.length).getD (5 + m) 0 = ((x.at'.take x.blobs.length).flatMap fun i => [UInt8.ofNat i, UInt8.ofNat (i / 256)]).getD m 0 := by
    intro m
    unfold headD
    rw [getD_r (by show 5 ≤ 5 + m; omega)]
    show _ = _
    congr 1
    show 5 + m - 5 = m
    omega
  rw [e1 (2 * j), show 5 + 2 * j + 1 = 5 + (2 * j + 1) from by omega, e1 (2 * j + 1), h1.1, h1.2, e, byte2 hw]

/-- the places behind a put -/
structure Wrote (G G' : Nat → BlkD × Nat) (e n : Nat) (x : Img) : Prop where
  blob : ∀ j, j < x.blobs.length → G' (x.at'.getD j 0) = (blobB e x j, 0)
  head : G' (x.at'.getD x.blobs.length 0) = (headB' e x, 0)
  other : ∀ p, p < n → p ∉ x.at' → G' p = G p
  inn : ∀ p ∈ x.at', p < n
theorem at_get {x : Img} (h : x.Ok) {p : Nat} (hp : p ∈ x.at') : ∃ j, j ≤ x.blobs.length ∧ x.at'.getD j 0 = p := by
  obtain ⟨j, hj, rfl⟩ := List.getElem_of_mem hp
  exact ⟨j, by rw [h.at'] at hj; omega, by rw [List.getD_eq_getElem?_getD, List.getElem?_eq_getElem hj]; rfl⟩
theorem at_mem {x : Img} (h : x.Ok) {j : Nat} (hj : j ≤ x.blobs.length) : x.at'.getD j 0 ∈ x.at' := by
  have hj' : j < x.at'.length := by rw [h.at']; omega
  rw [List.getD_eq_getElem?_getD, List.getElem?_eq_getElem hj']
  exact List.getElem_mem hj'
theorem at_list {x : Img} (h : x.Ok) : (List.range x.blobs.length).map (fun j => x.at'.getD j 0) ++ [x.at'.getD x.blobs.length 0] = x.at' := by
  have e : (List.range (x.blobs.length + 1)).map (fun j => x.at'.getD j 0) = x.at' := by
    refine List.ext_getElem (by simp [h.at']) fun i h1 h2 => ?_
    simp only [List.getElem_map, List.getElem_range]
    rw [List.getD_eq_getElem?_getD, List.getElem?_eq_getElem h2]
    rfl
  rw [List.range_succ, List.map_append] at e
  exact e
theorem Wrote.there {G G' : Nat → BlkD × Nat} {e n : Nat} {x : Img} (h : Wrote G G' e n x) (hx : x.Ok) : thereI G' n (x.at'.getD x.blobs.length 0) = some x := by
  have hc := headD_count hx
  have hcr := headD_credit hx
  refine there_some.2 ⟨by rw [h.head], ?_, x.blobs, ?_, ?_⟩
  · rw [h.head]
    refine headOk_iff.2 ⟨rfl, fun h0 => by have := hx.job.1; simp only [headB'] at h0; omega, ?_, ?_, ?_, ?_, ?_⟩
    · show 5 ≤ (headD x x.blobs.length).length; rw [headD_len hx]; omega
    · show creditOf (headD x x.blobs.length) ≤ 10000; have := hx.credit; omega
    · show 1 ≤ countOf (headD x x.blobs.length); rw [hc]; exact hx.few.1
    · show countOf (headD x x.blobs.length) ≤ 16; rw [hc]; exact hx.few.2
    · show (headD x x.blobs.length).length = 5 + 2 * countOf (headD x x.blobs.length); rw [hc]; exact headD_len hx
  · rw [h.head]
    show blobsI G' n (headB' e x) (countOf (headD x x.blobs.length)) = _
    rw [hc]
    refine blobsI_some.2 ⟨rfl, fun j hj => ?_⟩
    show blobI G' n (headB' e x) (placeOf (headD x x.blobs.length) j) j = _
    rw [headD_place hx hj]
    have h16 := hx.few.2
    unfold blobI
    rw [if_neg (by have := h.inn _ (at_mem hx (Nat.le_of_lt hj)); omega), h.blob j hj, if_pos]
    · rfl
    · unfold blobOk
      simp only [Bool.and_eq_true, decide_eq_true_eq]
      refine ⟨trivial, rfl, rfl, rfl, rfl, by show (x.blobs.getD j []).length + 1 ≠ 0; omega, ?_⟩
      show (UInt8.ofNat j).toNat = j
      simp only [UInt8.toNat_ofNat']
      omega
  · rw [h.head]
    show x = ⟨x.job, x.ver, (creditOf (headD x x.blobs.length) : Int), x.blobs, (List.range (countOf (headD x x.blobs.length))).map (placeOf (headD x x.blobs.length)) ++ [x.at'.getD x.blobs.length 0]⟩
    rw [hc, hcr]
    have : (List.range x.blobs.length).map (placeOf (headD x x.blobs.length)) = (List.range x.blobs.length).map (fun j => x.at'.getD j 0) := List.map_congr_left fun j hj => headD_place hx (List.mem_range.1 hj)
    rw [this, at_list hx]
/-- what is there behind a put was there, or is what was put -/
theorem Wrote.was {G G' : Nat → BlkD × Nat} {e n : Nat} {x : Img} (h : Wrote G G' e n x) (hx : x.Ok) (hno : ∀ a, a < n → (G a).2 = 0 → (G a).1.kind = 6 → (G a).1.a = x.job → (G a).1.b ≠ x.ver) {a : Nat} (ha : a < n) {y : Img} (hy : thereI G' n a = some y) :
    y = x ∨ (thereI G n a = some y ∧ ∀ p ∈ y.at', p ∉ x.at') := by
  by_cases hm : a ∈ x.at'
  · obtain ⟨j, hj, rfl⟩ := at_get hx hm
    rcases Nat.lt_or_ge j x.blobs.length with h1 | h1
    · have h2 := there_kind hy
      rw [h.blob j h1] at h2
      exact absurd h2.2.1 (by show (5 : Nat) ≠ 6; omega)
    · obtain rfl : j = x.blobs.length := by omega
      rw [h.there hx] at hy
      cases hy
      exact .inl rfl
  · refine .inr ?_
    have ea := h.other a ha hm
    have hk := there_kind hy
    have hall : ∀ p ∈ y.at', p ∉ x.at' := by
      intro p hp hpx
      obtain ⟨hpn, rfl | ⟨q0, q1, q2, q3⟩⟩ := (there_places hy ha).2 p hp
      · exact hm hpx
      · obtain ⟨j, hj, rfl⟩ := at_get hx hpx
        rcases Nat.lt_or_ge j x.blobs.length with h1 | h1
        · rw [h.blob j h1] at q2 q3
          rw [ea] at hk
          exact hno a ha hk.1 hk.2.1 (by rw [← hk.2.2.1, ← q2]; rfl) (by rw [← hk.2.2.2, ← q3]; rfl)
        · obtain rfl : j = x.blobs.length := by omega
          rw [h.head] at q1
          exact absurd q1 (by show (6 : Nat) ≠ 5; omega)
    exact ⟨there_congr hy ha fun p hp => (h.other p ((there_places hy ha).2 p hp).1 (hall p hp)).symm, hall⟩
end Go.Proofs.YtoapibbbooongaaDoor

/- Plain: a put on a slab whose power stays: all of it stands, and the next opening tells it. -/
namespace Go.Proofs.YtoapibbbooongaaDoor
open Go.RowKit Go.Quad _root_.Quad _root_.Quad.Slab

theorem thenS_ok (s : Sl) (g : Sl → Sl × Nat) : thenS (s, 0) g = g s := rfl
structure Quiet (s : Sl) : Prop where
  on : s.off = false
  arm : s.armed = 0
  way : ∀ w ∈ s.way, w.1 < s.done.length
theorem quiet_put {s : Sl} {k : Nat} {x : BlkD} (h : Quiet s) (hk : k < s.done.length) (hl : x.data.length ≤ 104) (h0 : x.kind ≠ 0) :
    ∃ s', putB s (k : Int) x = (s', 0) ∧ Quiet s' ∧ s'.done = s.done ∧ (∀ i, seenL s' i = if k = i then encB x else seenL s i) ∧ s'.steps = s.steps + 1 ∧ s'.way.length = s.way.length + 1 := by
  have hlen := encB_length (x := x) (by omega)
  obtain ⟨q1, q2⟩ := step_quiet h.arm
  have e : putB s (k : Int) x = ({ stepL s with way := s.way ++ [(k, encB x)] }, 0) := by
    unfold putB
    rw [if_neg (by omega), if_neg (by omega), if_neg h0]
    unfold writeL
    rw [if_neg (by rw [hasL_zero hk (by omega) h.on]; simp), Int.toNat_natCast, pad_full hlen, q1, h.on]
    rfl
  refine ⟨_, e, ⟨by rw [← h.on, ← q1], q2, fun w hw => ?_⟩, rfl, fun i => ?_, rfl, by simp⟩
  · rcases List.mem_append.1 hw with hw | hw
    · exact h.way w hw
    · rw [List.mem_singleton] at hw; subst hw; exact hk
  · unfold seenL
    dsimp only
    rw [List.foldl_append]
    rfl
theorem flush_get (i : Nat) : ∀ (l : List (Nat × Bytes)) (d : List Bytes), i < d.length → (l.foldl (fun d w => d.set w.1 w.2) d).getD i [] = l.foldl (fun p w => if w.1 = i then w.2 else p) (d.getD i []) ∧ (l.foldl (fun d w => d.set w.1 w.2) d).length = d.length
  | [], d, _ => ⟨rfl, rfl⟩
  | w :: l, d, hi => by
    have := flush_get i l (d.set w.1 w.2) (by simpa using hi)
    rw [List.foldl_cons, List.foldl_cons]
    have e : (d.set w.1 w.2).getD i [] = if w.1 = i then w.2 else d.getD i [] := by
      rw [List.getD_eq_getElem?_getD, List.getElem?_set]
      split
      · rename_i h; subst h; rw [if_pos hi]; rfl
      · rw [List.getD_eq_getElem?_getD]
    rw [e] at this
    exact ⟨this.1, by rw [this.2]; simp⟩
theorem fold_len : ∀ (l : List (Nat × Bytes)) (d : List Bytes), (l.foldl (fun d w => d.set w.1 w.2) d).length = d.length
  | [], d => rfl
  | w :: l, d => by rw [List.foldl_cons, fold_len l]; simp
theorem quiet_flush {s : Sl} (h : Quiet s) : ∃ s', flushL s = (s', 0) ∧ Quiet s' ∧ s'.done.length = s.done.length ∧ (∀ i, i < s.done.length → seenL s' i = seenL s i) ∧ s'.steps = s.steps + 1 ∧ s'.way = [] := by
  obtain ⟨q1, q2⟩ := step_quiet h.arm
  have q1 : (stepL s).off = false := by rw [q1]; exact h.on
  have e : flushL s = ({ stepL s with done := s.way.foldl (fun d w => d.set w.1 w.2) s.done, way := [] }, 0) := by
    unfold flushL
    rw [if_neg (by simp [h.on]), if_neg (by simp [q1])]
  refine ⟨_, e, ⟨q1, q2, fun w hw => by cases hw⟩, fold_len _ _, fun i hi => ?_, rfl, rfl⟩
  unfold seenL
  dsimp only [List.foldl_nil]
  rw [(flush_get i s.way s.done hi).1]
theorem quiet_crash {s : Sl} (h : Quiet s) (hw : s.way = []) (fates : Bytes) (cut : Int) : crashL s fates cut = s := by
  unfold crashL
  rw [hw]
  obtain ⟨d, w, o, a, t⟩ := s
  have h1 := h.on
  have h2 := h.arm
  dsimp only at h1 h2 hw
  subst h1 h2 hw
  rfl
theorem wr_quiet {f e : Nat} {x : Img} {s : Sl} (h : Quiet s) (hx : x.Ok) (hin : ∀ p ∈ x.at', f + p < s.done.length) : ∀ k, k ≤ x.blobs.length →
    ∃ s', wrBlobs f e x s k = (s', 0) ∧ Quiet s' ∧ s'.done.length = s.done.length ∧ s'.steps = s.steps + k ∧ s'.way.length = s.way.length + k ∧
      (∀ j, j < k → seenL s' (f + x.at'.getD j 0) = encB (blobB e x j)) ∧ ∀ i, (∀ j, j < k → i ≠ f + x.at'.getD j 0) → seenL s' i = seenL s i
  | 0, _ => ⟨s, rfl, h, rfl, rfl, rfl, fun j hj => by omega, fun _ _ => rfl⟩
  | k + 1, hk => by
    obtain ⟨s1, e1, q1, d1, t1, w1, b1, o1⟩ := wr_quiet h hx hin k (by omega)
    have hm := at_mem hx (j := k) (by omega)
    obtain ⟨s2, e2, q2, d2, v2, t2, w2⟩ := quiet_put (x := blobB e x k) q1 (k := f + x.at'.getD k 0) (by rw [d1]; exact hin _ hm) (by
      show (x.blobs.getD k []).length + 1 ≤ 104
      have : x.blobs.getD k [] ∈ x.blobs := by
        rw [List.getD_eq_getElem?_getD, List.getElem?_eq_getElem (by omega)]; exact List.getElem_mem _
      have := hx.small _ this
      omega) (by show (5 : Nat) ≠ 0; omega)
    have hne : ∀ j, j < k → x.at'.getD j 0 ≠ x.at'.getD k 0 := by
      intro j hj he
      have l1 : j < x.at'.length := by rw [hx.at']; omega
      have l2 : k < x.at'.length := by rw [hx.at']; omega
      rw [List.getD_eq_getElem?_getD, List.getD_eq_getElem?_getD, List.getElem?_eq_getElem l1, List.getElem?_eq_getElem l2] at he
      have := (List.getElem_inj hx.nodup).1 he
      omega
    refine ⟨s2, ?_, q2, by rw [d2, d1], by omega, by omega, fun j hj => ?_, fun i hi => ?_⟩
    · unfold wrBlobs
      rw [e1, if_neg (by simp)]
      exact e2
    · rw [v2]
      rcases Nat.lt_or_ge j k with h1 | h1
      · rw [if_neg (by have := hne j h1; omega), b1 j h1]
      · obtain rfl : j = k := by omega
        rw [if_pos rfl]
    · rw [v2, if_neg (by have := hi k (by omega); omega), o1 i fun j hj => hi j (by omega)]
theorem blobB_ok {e : Nat} {x : Img} (hx : x.Ok) (he : e < 4294967296) (k : Nat) : (blobB e x k).Ok := ⟨by show 5 < 256; omega, he, hx.job.2, hx.ver⟩
theorem headB_ok {e : Nat} {x : Img} (hx : x.Ok) (he : e < 4294967296) : (headB' e x).Ok := ⟨by show 6 < 256; omega, he, hx.job.2, hx.ver⟩
theorem write_quiet {f e n : Nat} {x : Img} {s : Sl} (h : Quiet s) (hx : x.Ok) (he : e < 4294967296) (hn : f + n ≤ s.done.length) (hin : ∀ p ∈ x.at', p < n) :
    ∃ s', writeI f e x s = (s', 0) ∧ Quiet s' ∧ s'.done.length = s.done.length ∧ s'.way = [] ∧ s'.steps = s.steps + x.blobs.length + 3 ∧ Wrote (seeG s f) (seeG s' f) e n x := by
  have hin' : ∀ p ∈ x.at', f + p < s.done.length := fun p hp => by have := hin p hp; omega
  obtain ⟨s1, e1, q1, d1, t1, w1, b1, o1⟩ := wr_quiet (e := e) h hx hin' x.blobs.length (Nat.le_refl _)
  obtain ⟨s2, e2, q2, d2, v2, t2, w2⟩ := quiet_flush q1
  have hm := at_mem hx (Nat.le_refl x.blobs.length)
  obtain ⟨s3, e3, q3, d3, v3, t3, w3⟩ := quiet_put (x := headB' e x) q2 (k := f + x.at'.getD x.blobs.length 0) (by rw [d2, d1]; exact hin' _ hm) (by
    show (headD x x.blobs.length).length ≤ 104
    rw [headD_len hx]; have := hx.few.2; omega) (by show (6 : Nat) ≠ 0; omega)
  obtain ⟨s4, e4, q4, d4, v4, t4, w4⟩ := quiet_flush q3
  have hl : s4.done.length = s.done.length := by rw [d4, d3, d2, d1]
  have hne : ∀ j, j < x.blobs.length → x.at'.getD j 0 ≠ x.at'.getD x.blobs.length 0 := by
    intro j hj he
    have l1 : j < x.at'.length := by rw [hx.at']; omega
    have l2 : x.blobs.length < x.at'.length := by rw [hx.at']; omega
    rw [List.getD_eq_getElem?_getD, List.getD_eq_getElem?_getD, List.getElem?_eq_getElem l1, List.getElem?_eq_getElem l2] at he
    have := (List.getElem_inj hx.nodup).1 he
    omega
  have see : ∀ i, i < s.done.length → seenL s4 i = if f + x.at'.getD x.blobs.length 0 = i then encB (headB' e x) else seenL s1 i := by
    intro i hi
    rw [v4 i (by rw [d3, d2, d1]; exact hi), v3]
    split
    · rfl
    · exact v2 i (by rw [d1]; exact hi)
  refine ⟨s4, ?_, q4, hl, w4, by omega, ⟨fun j hj => ?_, ?_, fun p hp hm => ?_, hin⟩⟩
  · unfold writeI
    rw [e1, thenS_ok, e2, thenS_ok, e3, thenS_ok, e4]
  · have hp := hin' _ (at_mem hx (Nat.le_of_lt hj))
    unfold seeG
    rw [getB_at (by rw [hl]; exact hp) q4.on, see _ hp, if_neg (by have := hne j hj; omega), b1 j hj]
    refine readB_enc (blobB_ok hx he j) (by show (5 : Nat) ≠ 0; omega) ?_
    show (x.blobs.getD j []).length + 1 ≤ 104
    have : x.blobs.getD j [] ∈ x.blobs := by
      rw [List.getD_eq_getElem?_getD, List.getElem?_eq_getElem (by omega)]; exact List.getElem_mem _
    have := hx.small _ this
    omega
  · have hp := hin' _ hm
    unfold seeG
    rw [getB_at (by rw [hl]; exact hp) q4.on, see _ hp, if_pos rfl]
    refine readB_enc (headB_ok hx he) (by show (6 : Nat) ≠ 0; omega) ?_
    show (headD x x.blobs.length).length ≤ 104
    rw [headD_len hx]; have := hx.few.2; omega
  · have hp' : f + p < s.done.length := by omega
    have ne1 : f + x.at'.getD x.blobs.length 0 ≠ f + p := fun e => hm (by
      have e2 : x.at'.getD x.blobs.length 0 = p := by omega
      rw [← e2]; exact at_mem hx (Nat.le_refl _))
    have ne2 : ∀ j, j < x.blobs.length → f + p ≠ f + x.at'.getD j 0 := fun j hj e => hm (by
      have e2 : x.at'.getD j 0 = p := by omega
      rw [← e2]; exact at_mem hx (Nat.le_of_lt hj))
    unfold seeG
    rw [getB_at (by rw [hl]; exact hp') q4.on, getB_at hp' h.on, see _ hp', if_neg ne1, o1 _ ne2]

/-! the list of an opening -/
theorem find_key {L : List Img} (hs : L.Pairwise (fun a b => a.job < b.job)) {x : Img} (hx : x ∈ L) : findI L x.job = some x := by
  unfold findI
  induction L with
  | nil => cases hx
  | cons y L ih =>
    obtain ⟨h1, h2⟩ := List.pairwise_cons.1 hs
    rw [List.find?_cons]
    rcases List.mem_cons.1 hx with rfl | hx
    · simp
    · have := h1 x hx
      rw [show (y.job == x.job) = false by simp; omega]
      exact ih h2 hx
theorem find_some {L : List Img} {j : Nat} {x : Img} (h : findI L j = some x) : x ∈ L ∧ x.job = j := ⟨List.mem_of_find?_eq_some h, by simpa using List.find?_some h⟩
theorem find_none {L : List Img} {j : Nat} (h : findI L j = none) : ∀ x ∈ L, x.job ≠ j := fun x hx => by simpa using List.find?_eq_none.1 h x hx
/-- what an opening's list has of each place -/
structure Lists (G : Nat → BlkD × Nat) (n k : Nat) (L : List Img) : Prop where
  sorted : L.Pairwise (fun a b => a.job < b.job)
  src : ∀ x ∈ L, ∃ a, a < k ∧ thereI G n a = some x
  best : ∀ a, a < k → ∀ y, thereI G n a = some y → ∃ x ∈ L, x.job = y.job ∧ y.ver ≤ x.ver
theorem lists (G : Nat → BlkD × Nat) (n : Nat) : ∀ k, Lists G n k (listI G n k)
  | 0 => ⟨List.Pairwise.nil, fun x hx => (List.not_mem_nil hx).elim, fun a ha => by omega⟩
  | k + 1 => by
    have ih := lists G n k
    rw [listI_succ]
    cases ht : thereI G n k with
    | none =>
      refine ⟨ih.sorted, fun x hx => ?_, fun a ha y hy => ?_⟩
      · obtain ⟨a, ha, h⟩ := ih.src x hx; exact ⟨a, by omega, h⟩
      · rcases Nat.lt_or_ge a k with h | h
        · exact ih.best a h y hy
        · obtain rfl : a = k := by omega
          rw [ht] at hy; cases hy
    | some x =>
      have hset : (∀ z ∈ listI G n k, z.job = x.job → z.ver ≤ x.ver) → Lists G n (k + 1) (setK Img.job x (listI G n k)) := by
        intro hle
        refine ⟨setK_sorted Img.job x ih.sorted, fun z hz => ?_, fun a ha y hy => ?_⟩
        · rcases (setK_mem Img.job x ih.sorted z).1 hz with rfl | ⟨h, _⟩
          · exact ⟨k, by omega, ht⟩
          · obtain ⟨a, ha, h⟩ := ih.src z h; exact ⟨a, by omega, h⟩
        · rcases Nat.lt_or_ge a k with h | h
          · obtain ⟨z, hz, e, hv⟩ := ih.best a h y hy
            by_cases ej : z.job = x.job
            · exact ⟨x, (setK_mem Img.job x ih.sorted x).2 (.inl rfl), by omega, by have := hle z hz ej; omega⟩
            · exact ⟨z, (setK_mem Img.job x ih.sorted z).2 (.inr ⟨hz, ej⟩), e, hv⟩
          · obtain rfl : a = k := by omega
            rw [ht] at hy; cases hy
            exact ⟨x, (setK_mem Img.job x ih.sorted x).2 (.inl rfl), rfl, Nat.le_refl _⟩
      unfold addI
      dsimp only
      cases hf : findI (listI G n k) x.job with
      | none => exact hset fun z hz e => absurd e (find_none hf z hz)
      | some y =>
        have hy := find_some hf
        dsimp only
        split
        · rename_i hv
          refine hset fun z hz e => ?_
          have h1 := find_key ih.sorted hz
          have h2 := find_key ih.sorted hy.1
          rw [e, ← hy.2, h2] at h1
          cases h1
          omega
        · rename_i hv
          refine ⟨ih.sorted, fun z hz => ?_, fun a ha z hz => ?_⟩
          · obtain ⟨a, ha, h⟩ := ih.src z hz; exact ⟨a, by omega, h⟩
          · rcases Nat.lt_or_ge a k with h | h
            · exact ih.best a h z hz
            · obtain rfl : a = k := by omega
              rw [ht] at hz; cases hz
              exact ⟨y, hy.1, hy.2, by omega⟩
/-- the newest of a job is told -/
theorem list_find {G : Nat → BlkD × Nat} {n a : Nat} {x : Img} (ha : a < n) (h : thereI G n a = some x) (hb : ∀ a', a' < n → ∀ y, thereI G n a' = some y → y.job = x.job → y.ver < x.ver ∨ y = x) : findI (listI G n n) x.job = some x := by
  have L := lists G n n
  obtain ⟨z, hz, e, hv⟩ := L.best a ha x h
  obtain ⟨a', ha', h'⟩ := L.src z hz
  rcases hb a' ha' z h' e with h1 | rfl
  · omega
  · exact find_key L.sorted hz
theorem list_none {G : Nat → BlkD × Nat} {n j : Nat} (hb : ∀ a, a < n → ∀ y, thereI G n a = some y → y.job ≠ j) : findI (listI G n n) j = none := by
  have L := lists G n n
  cases hf : findI (listI G n n) j with
  | none => rfl
  | some x =>
    obtain ⟨h1, h2⟩ := find_some hf
    obtain ⟨a, ha, h⟩ := L.src x h1
    exact absurd h2 (hb a ha x h)
end Go.Proofs.YtoapibbbooongaaDoor

/- Plain: a store whose slab has power: what is put is kept, and told behind the next opening. -/
namespace Go.Proofs.YtoapibbbooongaaDoor
open Go.RowKit Go.Quad _root_.Quad _root_.Quad.Slab

/-! marks -/
theorem markI_len : ∀ (l : List Nat) (m : List Bool) (b : Bool), (l.foldl (fun m i => m.set i b) m).length = m.length
  | [], _, _ => rfl
  | x :: l, m, b => by rw [List.foldl_cons, markI_len l]; simp
theorem markI_get (i : Nat) (b : Bool) : ∀ (l : List Nat) (m : List Bool), i < m.length → (l.foldl (fun m i => m.set i b) m).getD i true = if i ∈ l then b else m.getD i true
  | [], m, _ => by simp
  | x :: l, m, h => by
    rw [List.foldl_cons, markI_get i b l (m.set x b) (by simpa using h)]
    by_cases h1 : i ∈ l
    · rw [if_pos h1, if_pos (List.mem_cons_of_mem _ h1)]
    · rw [if_neg h1]
      by_cases h2 : i = x
      · subst h2
        rw [if_pos (List.mem_cons_self ..), List.getD_eq_getElem?_getD, List.getElem?_set_self h]; rfl
      · rw [if_neg (by simp [h1, h2]), List.getD_eq_getElem?_getD, List.getElem?_set_ne (fun e => h2 e.symm), ← List.getD_eq_getElem?_getD]
theorem taken_len {m : List Bool} {k : Nat} (h : k ≤ leftM m) : (takenI m k).length = k := by
  unfold takenI; rw [List.length_take, freeP_all]; omega
theorem taken_mem {m : List Bool} {k i : Nat} (h : i ∈ takenI m k) : i < m.length ∧ m.getD i true = false := freeP_lt (List.mem_of_mem_take h)
theorem taken_nodup (m : List Bool) (k : Nat) : (takenI m k).Nodup := by
  have h := freeP_rise (m := m) m.length
  have : (freeP m m.length).Nodup := h.imp fun h e => by omega
  exact this.sublist (List.take_sublist _ _)
/-- how many are free, if just these are taken -/
theorem left_of {m : List Bool} {l : List Nat} (hd : l.Nodup) (hl : ∀ i ∈ l, i < m.length) (h : ∀ i, i < m.length → (m.getD i true = true ↔ i ∈ l)) : leftM m + l.length = m.length := by
  induction l generalizing m with
  | nil =>
    have e : m = List.replicate m.length false := by
      refine List.ext_getElem (by simp) fun i h1 h2 => ?_
      rw [List.getElem_replicate]
      have := h i h1
      rw [List.getD_eq_getElem?_getD, List.getElem?_eq_getElem h1] at this
      simpa using this
    rw [e]
    unfold leftM
    rw [List.countP_replicate]
    simp
  | cons x l ih =>
    obtain ⟨h1, h2⟩ := List.nodup_cons.1 hd
    have hx := hl x (List.mem_cons_self ..)
    have hx1 := (h x hx).2 (List.mem_cons_self ..)
    rw [List.getD_eq_getElem?_getD, List.getElem?_eq_getElem hx] at hx1
    have e1 : m[x]? = some true := by rw [List.getElem?_eq_getElem hx]; exact congrArg some hx1
    have := left_free e1
    have := ih (m := m.set x false) h2 (fun i hi => by simpa using hl i (List.mem_cons_of_mem _ hi)) fun i hi => by
      rw [List.length_set] at hi
      by_cases e : i = x
      · subst e
        rw [List.getD_eq_getElem?_getD, List.getElem?_set_self hi]
        exact ⟨fun h => (by cases h), fun h => absurd h h1⟩
      · rw [List.getD_eq_getElem?_getD, List.getElem?_set_ne (fun h => e h.symm), ← List.getD_eq_getElem?_getD, h i hi]
        simp [e]
    rw [List.length_set] at this
    rw [List.length_cons]
    omega

/-- a store whose slab has power -/
structure Inv (c : Im) : Prop where
  quiet : Quiet c.sl
  way : c.sl.way = []
  up : c.down = false
  epoch : c.epoch < 4294967296
  fit : c.from' + c.used.length ≤ c.sl.done.length
  small : c.used.length ≤ 4096
  sorted : c.L.Pairwise (fun a b => a.job < b.job)
  ok : ∀ x ∈ c.L, x.Ok
  inn : ∀ x ∈ c.L, ∀ p ∈ x.at', p < c.used.length
  there : ∀ x ∈ c.L, thereI (seeG c.sl c.from') c.used.length (x.at'.getD x.blobs.length 0) = some x
  heads : ∀ a, a < c.used.length → (seeG c.sl c.from' a).2 = 0 → (seeG c.sl c.from' a).1.kind = 6 → ∃ x ∈ c.L, x.job = (seeG c.sl c.from' a).1.a ∧ ((seeG c.sl c.from' a).1.b < x.ver ∨ a = x.at'.getD x.blobs.length 0)
  used : ∀ i, i < c.used.length → (c.used.getD i true = true ↔ ∃ x ∈ c.L, i ∈ x.at')
  apart : ∀ x ∈ c.L, ∀ y ∈ c.L, x.job ≠ y.job → ∀ p ∈ x.at', p ∉ y.at'
theorem head_in {x : Img} {n : Nat} (h : x.Ok) (hn : ∀ p ∈ x.at', p < n) : x.at'.getD x.blobs.length 0 < n := hn _ (at_mem h (Nat.le_refl _))
/-- the next opening tells the same -/
theorem Inv.find {c : Im} (h : Inv c) (j : Nat) : findI (listI (seeG c.sl c.from') c.used.length c.used.length) j = findI c.L j := by
  cases hf : findI c.L j with
  | none =>
    refine list_none fun a ha y hy e => ?_
    obtain ⟨h0, h1, h2, h3⟩ := there_kind hy
    obtain ⟨x, hx, e1, _⟩ := h.heads a ha h0 h1
    exact find_none hf x hx (by omega)
  | some x =>
    obtain ⟨hx, rfl⟩ := find_some hf
    refine list_find (head_in (h.ok x hx) (h.inn x hx)) (h.there x hx) fun a ha y hy e => ?_
    obtain ⟨h0, h1, h2, h3⟩ := there_kind hy
    obtain ⟨z, hz, e1, e2⟩ := h.heads a ha h0 h1
    have hzx := find_key h.sorted hz
    rw [show z.job = x.job by omega, hf] at hzx
    cases hzx
    rcases e2 with e2 | e2
    · exact .inl (by omega)
    · subst e2
      rw [h.there x hx] at hy
      cases hy
      exact .inr rfl
/-- an image that may be put -/
structure Puts (c : Im) (x : Img) : Prop where
  right : rightI x = 0
  job : x.job < 4294967296
  ver : x.ver < 4294967296
  newer : ∀ y, findI c.L x.job = some y → y.ver < x.ver
  room : x.blobs.length + 1 ≤ leftM c.used
theorem right_zero {x : Img} (h : rightI x = 0) : 0 < x.job ∧ (0 ≤ x.credit ∧ x.credit ≤ 10000) ∧ (1 ≤ x.blobs.length ∧ x.blobs.length ≤ 16) ∧ ∀ b ∈ x.blobs, b.length ≤ 103 := by
  unfold rightI at h
  split at h
  · cases h
  · rename_i h1
    split at h
    · cases h
    · rename_i h2
      refine ⟨by omega, by omega, by omega, fun b hb => ?_⟩
      have : ¬ (x.blobs.any (fun b => decide (103 < b.length)) = true) := h2
      rw [List.any_eq_true] at this
      have : ¬ (103 < b.length) := fun hl => this ⟨b, hb, by simpa using hl⟩
      omega
theorem placed_ok {c : Im} {x : Img} (hc : c.used.length ≤ 4096) (h : Puts c x) : (placedI c x).Ok := by
  obtain ⟨h1, h2, h3, h4⟩ := right_zero h.right
  exact ⟨⟨h1, h.job⟩, h.ver, h2, h3, h4, taken_len h.room, taken_nodup _ _, fun p hp => by have := (taken_mem hp).1; omega⟩
theorem putI_ok {c : Im} {x : Img} (hi : Inv c) (h : Puts c x) : ∃ s', Quiet s' ∧ s'.way = [] ∧ s'.done.length = c.sl.done.length ∧ s'.steps = c.sl.steps + x.blobs.length + 3 ∧ Wrote (seeG c.sl c.from') (seeG s' c.from') c.epoch c.used.length (placedI c x) ∧
    putI c x = ({ c with sl := s', used := freeI (markI c.used (takenI c.used (x.blobs.length + 1))) (atI c.L x.job), L := setK Img.job (placedI c x) c.L }, 0) := by
  obtain ⟨s', e1, q, d, w, t, W⟩ := write_quiet (e := c.epoch) hi.quiet (placed_ok hi.small h) hi.epoch hi.fit (fun p hp => (taken_mem hp).1)
  refine ⟨s', q, w, d, t, W, ?_⟩
  unfold putI
  have hs : (match findI c.L x.job with | none => false | some y => decide (x.ver ≤ y.ver)) = false := by
    cases hf : findI c.L x.job with
    | none => rfl
    | some y => have := h.newer y hf; simp; omega
  rw [if_neg (by rw [hi.up, hi.quiet.on]; simp), if_neg (by simp [h.right]), if_neg (by rw [Bool.not_eq_true]; exact hs), if_neg (by have := h.room; omega), e1, if_neg (by simp)]
theorem atI_mem {L : List Img} (hs : L.Pairwise (fun a b => a.job < b.job)) {j p : Nat} : p ∈ atI L j ↔ ∃ z ∈ L, z.job = j ∧ p ∈ z.at' := by
  unfold atI
  cases hf : findI L j with
  | none =>
    constructor
    · intro h; cases h
    · rintro ⟨z, hz, e, _⟩; exact absurd e (find_none hf z hz)
  | some y =>
    obtain ⟨hy, rfl⟩ := find_some hf
    constructor
    · intro h; exact ⟨y, hy, rfl, h⟩
    · rintro ⟨z, hz, e, h⟩
      have := find_key hs hz
      rw [e, hf] at this
      cases this
      exact h
theorem Inv.put {c : Im} {x : Img} (hi : Inv c) (h : Puts c x) : Inv (putI c x).1 ∧ (putI c x).2 = 0 ∧ (putI c x).1.used.length = c.used.length ∧ (putI c x).1.from' = c.from' ∧ (putI c x).1.L = setK Img.job (placedI c x) c.L ∧ (putI c x).1.sl.steps ≤ c.sl.steps + 19 ∧ (putI c x).1.sl.done.length = c.sl.done.length := by
  obtain ⟨s', q, w, d, t, W, e⟩ := putI_ok hi h
  have hx := placed_ok hi.small h
  have h16 := (right_zero h.right).2.2.1
  have hu : (freeI (markI c.used (takenI c.used (x.blobs.length + 1))) (atI c.L x.job)).length = c.used.length := by
    unfold freeI markI; rw [markI_len, markI_len]
  have hdis : ∀ z ∈ c.L, ∀ p ∈ z.at', p ∉ (placedI c x).at' := fun z hz p hp hm => by
    have h1 := (hi.used p (hi.inn z hz p hp)).2 ⟨z, hz, hp⟩
    have h2 := (taken_mem hm).2
    rw [h1] at h2
    cases h2
  have hget : ∀ i, i < c.used.length → (freeI (markI c.used (takenI c.used (x.blobs.length + 1))) (atI c.L x.job)).getD i true = if i ∈ atI c.L x.job then false else if i ∈ (placedI c x).at' then true else c.used.getD i true := by
    intro i hi'
    unfold freeI markI
    rw [markI_get _ _ _ _ (by rw [markI_len]; exact hi'), markI_get _ _ _ _ hi']
    rfl
  rw [e]
  refine ⟨⟨q, w, hi.up, hi.epoch, ?_, ?_, setK_sorted _ _ hi.sorted, ?_, ?_, ?_, ?_, ?_, ?_⟩, rfl, hu, rfl, rfl, by show s'.steps ≤ _; omega, d⟩
  · show c.from' + (freeI _ _).length ≤ s'.done.length
    rw [hu, d]; exact hi.fit
  · show (freeI _ _).length ≤ _
    rw [hu]; exact hi.small
  · intro z hz
    rcases (setK_mem Img.job _ hi.sorted z).1 hz with rfl | ⟨h1, _⟩
    · exact hx
    · exact hi.ok z h1
  · intro z hz p hp
    show p < (freeI _ _).length
    rw [hu]
    rcases (setK_mem Img.job _ hi.sorted z).1 hz with rfl | ⟨h1, _⟩
    · exact (taken_mem hp).1
    · exact hi.inn z h1 p hp
  · intro z hz
    show thereI (seeG s' c.from') (freeI _ _).length _ = _
    rw [hu]
    rcases (setK_mem Img.job _ hi.sorted z).1 hz with rfl | ⟨h1, _⟩
    · exact W.there hx
    · exact there_congr (hi.there z h1) (head_in (hi.ok z h1) (hi.inn z h1)) fun p hp => W.other p (hi.inn z h1 p hp) (hdis z h1 p hp)
  · intro a ha h0 h1
    have ha : a < c.used.length := by rw [← hu]; exact ha
    show ∃ z ∈ setK Img.job (placedI c x) c.L, _
    have h0 : (seeG s' c.from' a).2 = 0 := h0
    have h1 : (seeG s' c.from' a).1.kind = 6 := h1
    show ∃ z ∈ setK Img.job (placedI c x) c.L, z.job = (seeG s' c.from' a).1.a ∧ ((seeG s' c.from' a).1.b < z.ver ∨ a = z.at'.getD z.blobs.length 0)
    by_cases hm : a ∈ (placedI c x).at'
    · obtain ⟨j, hj, rfl⟩ := at_get hx hm
      rcases Nat.lt_or_ge j (placedI c x).blobs.length with h2 | h2
      · rw [W.blob j h2] at h1
        exact absurd h1 (by show (5 : Nat) ≠ 6; omega)
      · obtain rfl : j = (placedI c x).blobs.length := by omega
        rw [W.head]
        exact ⟨placedI c x, (setK_mem Img.job _ hi.sorted _).2 (.inl rfl), rfl, .inr rfl⟩
    · rw [W.other a ha hm] at h0 h1 ⊢
      obtain ⟨z, hz, e1, e2⟩ := hi.heads a ha h0 h1
      by_cases ej : z.job = x.job
      · have hzv : z.ver < x.ver := h.newer z (by rw [← ej]; exact find_key hi.sorted hz)
        refine ⟨placedI c x, (setK_mem Img.job _ hi.sorted _).2 (.inl rfl), by rw [← e1, ej]; rfl, .inl ?_⟩
        show _ < x.ver
        rcases e2 with e2 | e2
        · omega
        · subst e2
          have := there_kind (hi.there z hz)
          omega
      · exact ⟨z, (setK_mem Img.job _ hi.sorted _).2 (.inr ⟨hz, ej⟩), e1, e2⟩
  · intro i hi'
    have hi' : i < c.used.length := by rw [← hu]; exact hi'
    show (freeI _ _).getD i true = true ↔ ∃ z ∈ setK Img.job (placedI c x) c.L, i ∈ z.at'
    rw [hget i hi']
    constructor
    · intro h1
      split at h1
      · cases h1
      · rename_i h2
        split at h1
        · rename_i h3
          exact ⟨placedI c x, (setK_mem Img.job _ hi.sorted _).2 (.inl rfl), h3⟩
        · obtain ⟨z, hz, hp⟩ := (hi.used i hi').1 h1
          exact ⟨z, (setK_mem Img.job _ hi.sorted _).2 (.inr ⟨hz, fun e => h2 ((atI_mem hi.sorted).2 ⟨z, hz, e, hp⟩)⟩), hp⟩
    · rintro ⟨z, hz, hp⟩
      rcases (setK_mem Img.job _ hi.sorted z).1 hz with rfl | ⟨h1, h2⟩
      · rw [if_neg fun hm => ?_, if_pos hp]
        obtain ⟨z, hz, _, hq⟩ := (atI_mem hi.sorted).1 hm
        exact hdis z hz i hq hp
      · rw [if_neg fun hm => ?_, if_neg (hdis z h1 i hp)]
        · exact (hi.used i hi').2 ⟨z, h1, hp⟩
        · obtain ⟨y, hy, ey, hq⟩ := (atI_mem hi.sorted).1 hm
          exact hi.apart z h1 y hy (by rw [ey]; exact h2) i hp hq
  · intro y hy z hz hne p hp hq
    rcases (setK_mem Img.job _ hi.sorted y).1 hy with rfl | ⟨h1, h2⟩
    · rcases (setK_mem Img.job _ hi.sorted z).1 hz with rfl | ⟨h3, h4⟩
      · exact hne rfl
      · exact hdis z h3 p hq hp
    · rcases (setK_mem Img.job _ hi.sorted z).1 hz with rfl | ⟨h3, h4⟩
      · exact hdis y h1 p hp hq
      · exact hi.apart y h1 z h3 hne p hp hq
/-- a slab without images -/
theorem list_empty {G : Nat → BlkD × Nat} {n : Nat} (h : ∀ a, a < n → (G a).2 ≠ 0) : ∀ k, k ≤ n → listI G n k = []
  | 0, _ => rfl
  | k + 1, hk => by
    rw [listI_succ, list_empty h k (by omega)]
    unfold thereI
    rw [if_pos (h k (by omega))]
    rfl
theorem Inv.fresh {s : Sl} {f n e : Nat} (q : Quiet s) (hw : s.way = []) (he : e < 4294967296) (hf : f + n ≤ s.done.length) (hn : n ≤ 4096) (h : ∀ a, a < n → (seeG s f a).2 ≠ 0) : Inv ⟨s, f, e, [], List.replicate n false, false⟩ := by
  refine ⟨q, hw, rfl, he, by simpa using hf, by simpa using hn, List.Pairwise.nil, by simp, by simp, by simp, fun a ha h0 => ?_, fun i hi => ?_, by simp⟩
  · exact absurd h0 (h a (by simpa using ha))
  · have hi : i < n := by simpa using hi
    simp [List.getD_eq_getElem?_getD, hi]
theorem used_nil (n : Nat) : usedI n [] = List.replicate n false := by
  unfold usedI
  refine List.ext_getElem (by simp) fun i h1 h2 => by simp
theorem new_see (n f a : Nat) (h : f + a < n) : (seeG (newL n) f a).2 = 6 := by
  unfold seeG
  have hs : seenL (newL n) (f + a) = List.replicate 128 0 := by
    unfold seenL newL
    dsimp only [List.foldl_nil]
    rw [List.getD_eq_getElem?_getD, List.getElem?_replicate, if_pos h]
    rfl
  rw [getB_at (by simpa [newL] using h) rfl, hs]
  decide +kernel
theorem new_quiet (n : Nat) : Quiet (newL n) := ⟨rfl, rfl, fun w hw => by cases hw⟩
theorem open_new {n f t e : Nat} (h1 : f < t) (h2 : t ≤ n) (h3 : n ≤ 4096) (he : e < 4294967296) : openI (newL n) (f : Int) (t : Int) e = (some ⟨newL n, f, e, [], List.replicate (t - f) false, false⟩, 0) ∧ Inv ⟨newL n, f, e, [], List.replicate (t - f) false, false⟩ := by
  have hl : (newL n).done.length = n := by simp [newL]
  have hs : ∀ a, a < t - f → (seeG (newL n) f a).2 ≠ 0 := fun a ha => by rw [new_see n f a (by omega)]; omega
  refine ⟨?_, Inv.fresh (new_quiet n) rfl he (by omega) (by omega) hs⟩
  unfold openI
  rw [if_neg (by omega), if_neg (by simp [newL]), Int.toNat_natCast, show ((t : Int) - (f : Int)).toNat = t - f from by omega, list_empty hs _ (Nat.le_refl _), used_nil]
/-- an opening of a slab that a store left -/
theorem Inv.open' {c : Im} (h : Inv c) (e : Nat) (hn : 0 < c.used.length) : openI c.sl (c.from' : Int) ((c.from' + c.used.length : Nat) : Int) e = (some ⟨c.sl, c.from', e, listI (seeG c.sl c.from') c.used.length c.used.length, usedI c.used.length (listI (seeG c.sl c.from') c.used.length c.used.length), false⟩, 0) := by
  have hf := h.fit
  unfold openI
  rw [if_neg (by omega), if_neg (by simp [h.quiet.on]), Int.toNat_natCast, show (((c.from' + c.used.length : Nat) : Int) - (c.from' : Int)).toNat = c.used.length from by omega]
end Go.Proofs.YtoapibbbooongaaDoor

/- Plain: what a put may come to; drops; one job's images. -/
namespace Go.Proofs.YtoapibbbooongaaDoor
open Go.RowKit Go.Quad _root_.Quad _root_.Quad.Slab

/-- a put that isn't done changes nothing -/
inductive PutWays (c : Im) (x : Img) : Prop
  | no (r : Nat) (h : putI c x = (c, r)) (h0 : r = rightI x ∧ rightI x ≠ 0 ∨ r = 12 ∧ (∃ y, findI c.L x.job = some y ∧ x.ver ≤ y.ver) ∨ r = 8 ∧ leftM c.used < x.blobs.length + 1)
  | yes (h : Puts c x)
theorem put_ways {c : Im} {x : Img} (hi : Inv c) (hj : x.job < 4294967296) (hv : x.ver < 4294967296) : PutWays c x := by
  by_cases h1 : rightI x = 0
  · cases hf : findI c.L x.job with
    | none =>
      by_cases h3 : leftM c.used < x.blobs.length + 1
      · refine .no 8 ?_ (.inr (.inr ⟨rfl, h3⟩))
        unfold putI
        rw [if_neg (by rw [hi.up, hi.quiet.on]; simp), if_neg (by simp [h1]), hf, if_neg (by simp), if_pos h3]
      · exact .yes ⟨h1, hj, hv, fun y hy => (by rw [hf] at hy; cases hy), by omega⟩
    | some y =>
      by_cases h2 : x.ver ≤ y.ver
      · refine .no 12 ?_ (.inr (.inl ⟨rfl, y, hf, h2⟩))
        unfold putI
        rw [if_neg (by rw [hi.up, hi.quiet.on]; simp), if_neg (by simp [h1]), hf, if_pos (by simpa using h2)]
      · by_cases h3 : leftM c.used < x.blobs.length + 1
        · refine .no 8 ?_ (.inr (.inr ⟨rfl, h3⟩))
          unfold putI
          rw [if_neg (by rw [hi.up, hi.quiet.on]; simp), if_neg (by simp [h1]), hf, if_neg (by simpa using h2), if_pos h3]
        · exact .yes ⟨h1, hj, hv, fun z hz => (by rw [hf] at hz; cases hz; omega), by omega⟩
  · refine .no (rightI x) ?_ (.inl ⟨rfl, h1⟩)
    unfold putI
    rw [if_neg (by rw [hi.up, hi.quiet.on]; simp), if_pos h1]
/-- whatever is put, the store is one whose slab has power -/
theorem Inv.put' {c : Im} {x : Img} (hi : Inv c) (hj : x.job < 4294967296) (hv : x.ver < 4294967296) : Inv (putI c x).1 ∧ (putI c x).1.used.length = c.used.length ∧ (putI c x).1.from' = c.from' ∧ (putI c x).1.sl.steps ≤ c.sl.steps + 19 ∧ (putI c x).1.sl.done.length = c.sl.done.length ∧ (∀ j, j ≠ x.job → findI (putI c x).1.L j = findI c.L j) := by
  rcases put_ways hi hj hv with ⟨r, h, _⟩ | h
  · rw [h]; exact ⟨hi, rfl, rfl, Nat.le_add_right _ _, rfl, fun _ _ => rfl⟩
  · obtain ⟨h1, _, h2, h3, h4, h5, h6⟩ := hi.put h
    refine ⟨h1, h2, h3, h5, h6, fun j hj => ?_⟩
    rw [h4]
    cases hf : findI c.L j with
    | none =>
      cases hg : findI (setK Img.job (placedI c x) c.L) j with
      | none => rfl
      | some z =>
        obtain ⟨hz, e⟩ := find_some hg
        rcases (setK_mem Img.job _ hi.sorted z).1 hz with rfl | ⟨hz, _⟩
        · exact absurd e.symm hj
        · exact absurd e (find_none hf z hz)
    | some z =>
      obtain ⟨hz, rfl⟩ := find_some hf
      exact find_key (setK_sorted Img.job _ hi.sorted) ((setK_mem Img.job _ hi.sorted z).2 (.inr ⟨hz, hj⟩))
/-- the places behind a drop -/
theorem quiet_write0 {s : Sl} {k : Nat} (h : Quiet s) (hk : k < s.done.length) :
    ∃ s', writeL s (k : Int) [] = (s', 0) ∧ Quiet s' ∧ s'.done = s.done ∧ (∀ i, seenL s' i = if k = i then List.replicate 128 0 else seenL s i) ∧ s'.steps = s.steps + 1 ∧ s'.way.length = s.way.length + 1 := by
  obtain ⟨q1, q2⟩ := step_quiet h.arm
  have e : writeL s (k : Int) [] = ({ stepL s with way := s.way ++ [(k, List.replicate 128 0)] }, 0) := by
    unfold writeL
    rw [if_neg (by rw [hasL_zero hk (by simp) h.on]; simp), Int.toNat_natCast, q1, h.on]
    rfl
  refine ⟨_, e, ⟨by rw [← h.on, ← q1], q2, fun w hw => ?_⟩, rfl, fun i => ?_, rfl, by simp⟩
  · rcases List.mem_append.1 hw with hw | hw
    · exact h.way w hw
    · rw [List.mem_singleton] at hw; subst hw; exact hk
  · unfold seenL
    dsimp only
    rw [List.foldl_append]
    rfl
theorem drop_quiet {c : Im} {x : Img} (hi : Inv c) (hx : x ∈ c.L) : ∃ s', dropS c x = (s', 0) ∧ Quiet s' ∧ s'.done.length = c.sl.done.length ∧ s'.way = [] ∧ s'.steps = c.sl.steps + 2 ∧
    (seeG s' c.from' (x.at'.getD x.blobs.length 0)).2 ≠ 0 ∧ ∀ p, p < c.used.length → p ≠ x.at'.getD x.blobs.length 0 → seeG s' c.from' p = seeG c.sl c.from' p := by
  have hl : x.at'.length - 1 = x.blobs.length := by rw [(hi.ok x hx).at']; omega
  have hp := head_in (hi.ok x hx) (hi.inn x hx)
  have hfit := hi.fit
  have hk : c.from' + x.at'.getD x.blobs.length 0 < c.sl.done.length := by omega
  obtain ⟨s1, e1, q1, d1, v1, t1, w1⟩ := quiet_write0 hi.quiet hk
  obtain ⟨s2, e2, q2, d2, v2, t2, w2⟩ := quiet_flush q1
  have see : ∀ i, i < c.sl.done.length → seenL s2 i = if c.from' + x.at'.getD x.blobs.length 0 = i then List.replicate 128 0 else seenL c.sl i := fun i h => by rw [v2 i (by rw [d1]; exact h), v1]
  refine ⟨s2, ?_, q2, by rw [d2, d1], w2, by omega, ?_, fun p hp hne => ?_⟩
  · unfold dropS
    rw [hl, e1, thenS_ok, e2]
  · unfold seeG
    rw [getB_at (by rw [d2, d1]; exact hk) q2.on, see _ hk, if_pos rfl]
    decide +kernel
  · have hp' : c.from' + p < c.sl.done.length := by omega
    unfold seeG
    rw [getB_at (by rw [d2, d1]; exact hp') q2.on, getB_at hp' hi.quiet.on, see _ hp', if_neg (by omega)]
theorem drop_none {c : Im} {j : Nat} (hi : Inv c) (h : findI c.L j = none) : dropI c j = (c, 6) := by
  unfold dropI
  rw [if_neg (by rw [hi.up, hi.quiet.on]; simp), h]
theorem drop_some {c : Im} {j : Nat} {x : Img} (hi : Inv c) (h : findI c.L j = some x) : ∃ s', Quiet s' ∧ s'.way = [] ∧ s'.done.length = c.sl.done.length ∧ s'.steps = c.sl.steps + 2 ∧
    (seeG s' c.from' (x.at'.getD x.blobs.length 0)).2 ≠ 0 ∧ (∀ p, p < c.used.length → p ≠ x.at'.getD x.blobs.length 0 → seeG s' c.from' p = seeG c.sl c.from' p) ∧
    dropI c j = ({ c with sl := s', used := freeI c.used x.at', L := c.L.filter fun y => y.job != j }, 0) := by
  obtain ⟨hx, rfl⟩ := find_some h
  obtain ⟨s', e, q, d, w, t, h1, h2⟩ := drop_quiet hi hx
  refine ⟨s', q, w, d, t, h1, h2, ?_⟩
  unfold dropI
  rw [if_neg (by rw [hi.up, hi.quiet.on]; simp), h]
  dsimp only
  rw [e, if_neg (by simp)]
theorem find_filter : ∀ {L : List Img} {j k : Nat}, k ≠ j → findI (L.filter fun y => y.job != j) k = findI L k
  | [], _, _, _ => rfl
  | y :: L, j, k, h => by
    have ih := find_filter (L := L) h
    unfold findI at ih ⊢
    rw [List.filter_cons]
    by_cases e : y.job = j
    · rw [if_neg (by simp [e]), ih, List.find?_cons, show (y.job == k) = false by simp; omega]
    · rw [if_pos (by simpa using e), List.find?_cons, List.find?_cons, ih]
/-- the next opening tells the same of all others -/
theorem drop_find {c : Im} {x : Img} (hi : Inv c) (hx : x ∈ c.L) {G' : Nat → BlkD × Nat} (h1 : (G' (x.at'.getD x.blobs.length 0)).2 ≠ 0) (h2 : ∀ p, p < c.used.length → p ≠ x.at'.getD x.blobs.length 0 → G' p = seeG c.sl c.from' p) {j : Nat} (hj : j ≠ x.job) :
    findI (listI G' c.used.length c.used.length) j = findI c.L j := by
  have was : ∀ a, a < c.used.length → ∀ y, thereI G' c.used.length a = some y → thereI (seeG c.sl c.from') c.used.length a = some y := by
    intro a ha y hy
    refine there_congr hy ha fun p hp => ?_
    obtain ⟨hpn, h⟩ := (there_places hy ha).2 p hp
    refine (h2 p hpn fun e => h1 ?_).symm
    rw [← e]
    rcases h with rfl | h
    · exact (there_kind hy).1
    · exact h.1
  cases hf : findI c.L j with
  | none =>
    refine list_none fun a ha y hy e => ?_
    obtain ⟨k0, k1, k2, k3⟩ := there_kind (was a ha y hy)
    obtain ⟨z, hz, e1, _⟩ := hi.heads a ha k0 k1
    exact find_none hf z hz (by omega)
  | some z =>
    obtain ⟨hz, rfl⟩ := find_some hf
    have hth : thereI G' c.used.length (z.at'.getD z.blobs.length 0) = some z := there_congr (hi.there z hz) (head_in (hi.ok z hz) (hi.inn z hz)) fun p hp => h2 p (hi.inn z hz p hp) fun e => hi.apart z hz x hx hj p hp (by rw [e]; exact at_mem (hi.ok x hx) (Nat.le_refl _))
    refine list_find (head_in (hi.ok z hz) (hi.inn z hz)) hth fun a ha y hy e => ?_
    have hy' := was a ha y hy
    obtain ⟨k0, k1, k2, k3⟩ := there_kind hy'
    obtain ⟨v, hv, e1, e2⟩ := hi.heads a ha k0 k1
    have hvz := find_key hi.sorted hv
    rw [show v.job = z.job by omega, hf] at hvz
    cases hvz
    rcases e2 with e2 | e2
    · exact .inl (by omega)
    · subst e2
      rw [hi.there z hz] at hy'
      cases hy'
      exact .inr rfl
/-! one job's images -/
theorem left_none {c : Im} (hi : Inv c) (h : c.L = []) : leftM c.used = c.used.length := by
  have := left_of (m := c.used) (l := []) (by simp) (by simp) fun i hi' => by rw [hi.used i hi', h]; simp
  simpa using this
theorem left_one {c : Im} {y : Img} (hi : Inv c) (h : c.L = [y]) : leftM c.used + (y.blobs.length + 1) = c.used.length := by
  have hy : y ∈ c.L := by rw [h]; simp
  have := left_of (m := c.used) (l := y.at') (hi.ok y hy).nodup (hi.inn y hy) fun i hi' => by rw [hi.used i hi', h]; simp
  rw [(hi.ok y hy).at'] at this
  exact this
end Go.Proofs.YtoapibbbooongaaDoor

/- A map by uint32 that holds a list by rising keys. -/
namespace Go.Proofs.YtoapibbbooongaaDoor
open Go.RowKit Go.Quad _root_.Quad

def idK (id : Nat) : Lit := .int .u32 (id : Int)
theorem idK_ne {a b : Nat} (h : a ≠ b) : idK a ≠ idK b := by
  intro e
  unfold idK at e
  simp only [Lit.int.injEq, true_and] at e
  omega
theorem idK_key (a : Nat) : WideAt.IsKeyLit (idK a) := trivial
/-- a map that holds just these, by their keys -/
structure MapOf {α : Type} (key : α → Nat) (dat : α → DataW Unit) (D : DataW Unit) (L : List α) : Prop where
  tidy : Maps.Tidy D
  has : ∀ id : Nat, Maps.has D (idK id) = L.any (fun j => key j == id)
  at' : ∀ j ∈ L, ∀ z, D.atKey (idK (key j)) z = dat j
  size : Maps.size D = L.length
theorem MapOf.nil {α : Type} (key : α → Nat) (dat : α → DataW Unit) : MapOf key dat (.map []) [] := ⟨Maps.tidy_empty, fun _ => rfl, by simp, rfl⟩
theorem any_key {α : Type} {key : α → Nat} {L : List α} {id : Nat} : L.any (fun j => key j == id) = true ↔ ∃ j ∈ L, key j = id := by simp
theorem any_noKey {α : Type} {key : α → Nat} {L : List α} {id : Nat} : L.any (fun j => key j == id) = false ↔ ∀ j ∈ L, key j ≠ id := by simp
theorem setK_length {α : Type} (key : α → Nat) (x : α) {L : List α} (h : L.Pairwise (fun a b => key a < key b)) : (setK key x L).length = L.length + (if L.any (fun j => key j == key x) then 0 else 1) := by
  rw [setK_eq key x h]
  have gen : ∀ L : List α, L.Pairwise (fun a b => key a < key b) → (L.filter (fun y => decide (key y < key x))).length + (L.filter (fun y => decide (key x < key y))).length + (if L.any (fun j => key j == key x) then 1 else 0) = L.length := by
    intro L
    induction L with
    | nil => intro _; rfl
    | cons y L ih =>
      intro h
      obtain ⟨h1, h2⟩ := List.pairwise_cons.1 h
      have ih := ih h2
      rw [List.filter_cons, List.filter_cons, List.any_cons]
      rcases Nat.lt_trichotomy (key y) (key x) with e | e | e
      · rw [if_pos (by simpa using e), if_neg (by simp; omega), show (key y == key x) = false by simp; omega]
        simp only [Bool.false_or, List.length_cons]
        omega
      · have hno : L.any (fun j => key j == key x) = false := any_noKey.2 fun j hj => by have := h1 j hj; omega
        rw [hno] at ih
        rw [if_neg (by simp; omega), if_neg (by simp; omega), show (key y == key x) = true by simp [e], hno]
        simp only [Bool.or_false, if_true, List.length_cons]
        simp at ih
        omega
      · rw [if_neg (by simp; omega), if_pos (by simpa using e), show (key y == key x) = false by simp; omega]
        simp only [Bool.false_or, List.length_cons]
        omega
  have := gen L h
  rw [List.length_append, List.length_cons]
  split <;> simp_all <;> omega
theorem MapOf.set {α : Type} {key : α → Nat} {dat : α → DataW Unit} {D : DataW Unit} {L : List α} (h : MapOf key dat D L) (hp : L.Pairwise (fun a b => key a < key b)) (x : α) : MapOf key dat (D.put (idK (key x)) (dat x)) (setK key x L) := by
  have hm := h.tidy.isMap
  refine ⟨h.tidy.put (idK_key _) _, fun id => ?_, fun y hy z => ?_, ?_⟩
  · by_cases e : id = key x
    · subst e
      rw [Maps.has_put_same hm (idK_key _)]
      exact (any_key.2 ⟨x, (setK_mem key x hp x).2 (.inl rfl), rfl⟩).symm
    · rw [Maps.has_put_other (idK_ne e), h.has id, Bool.eq_iff_iff, any_key, any_key]
      constructor
      · rintro ⟨j, hj, rfl⟩
        exact ⟨j, (setK_mem key x hp j).2 (.inr ⟨hj, e⟩), rfl⟩
      · rintro ⟨j, hj, rfl⟩
        rcases (setK_mem key x hp j).1 hj with rfl | ⟨h1, _⟩
        · exact absurd rfl e
        · exact ⟨j, h1, rfl⟩
  · rcases (setK_mem key x hp y).1 hy with rfl | ⟨h1, h2⟩
    · exact Maps.atKey_put_same hm (idK_key _) _ z
    · rw [Maps.atKey_put_other (idK_ne h2), h.at' y h1 z]
  · rw [Maps.size_put h.tidy, h.has, setK_length key x hp, h.size]
    split <;> simp
theorem filter_lenK {α : Type} {key : α → Nat} {L : List α} (hp : L.Pairwise (fun a b => key a < key b)) (id : Nat) : (L.filter fun x => key x != id).length + (if L.any (fun j => key j == id) then 1 else 0) = L.length := by
  induction L with
  | nil => rfl
  | cons x L ih =>
    obtain ⟨h1, h2⟩ := List.pairwise_cons.1 hp
    have ih := ih h2
    by_cases e : key x = id
    · subst e
      have hno : L.any (fun j => key j == key x) = false := any_noKey.2 fun y hy => by have := h1 y hy; omega
      rw [hno] at ih
      simp at ih ⊢
      exact ih
    · have e1 : (key x == id) = false := by rw [beq_eq_false_iff_ne]; exact e
      have e2 : (key x != id) = true := by simp [bne, e1]
      rw [List.filter_cons, e2, List.any_cons, e1]
      simp only [Bool.false_or, if_true, List.length_cons]
      omega
theorem MapOf.del {α : Type} {key : α → Nat} {dat : α → DataW Unit} {D : DataW Unit} {L : List α} (h : MapOf key dat D L) (hp : L.Pairwise (fun a b => key a < key b)) (id : Nat) : MapOf key dat (D.del (idK id)) (L.filter fun x => key x != id) := by
  refine ⟨h.tidy.del _, fun k => ?_, fun x hx z => ?_, ?_⟩
  · by_cases e : k = id
    · subst e
      rw [Maps.has_del_same]
      symm
      exact any_noKey.2 fun x hx => by simpa using (List.mem_filter.1 hx).2
    · rw [Maps.has_del_other (idK_ne e), h.has k, Bool.eq_iff_iff, any_key, any_key]
      constructor
      · rintro ⟨x, hx, rfl⟩; exact ⟨x, List.mem_filter.2 ⟨hx, by simpa using e⟩, rfl⟩
      · rintro ⟨x, hx, rfl⟩; exact ⟨x, (List.mem_filter.1 hx).1, rfl⟩
  · have hx' := List.mem_filter.1 hx
    have : key x ≠ id := by simpa using hx'.2
    rw [Maps.atKey_del_other (idK_ne this), h.at' x hx'.1 z]
  · have h1 := Maps.size_del (k := idK id) h.tidy
    have h2 := filter_lenK hp id
    rw [h.has] at h1
    have := h.size
    omega
/-- looked for: there -/
theorem MapOf.found {α : Type} {key : α → Nat} {dat : α → DataW Unit} {D : DataW Unit} {L : List α} (h : MapOf key dat D L) {id : Nat} {j : α} (hf : L.find? (fun j => key j == id) = some j) : Maps.has D (idK id) = true ∧ (∀ z, D.atKey (idK id) z = dat j) ∧ j ∈ L ∧ key j = id := by
  have h1 := List.mem_of_find?_eq_some hf
  have h2 : key j = id := by simpa using List.find?_some hf
  exact ⟨by rw [h.has]; exact any_key.2 ⟨j, h1, h2⟩, fun z => by rw [← h2]; exact h.at' j h1 z, h1, h2⟩
/-- looked for: not there -/
theorem MapOf.missed {α : Type} {key : α → Nat} {dat : α → DataW Unit} {D : DataW Unit} {L : List α} (h : MapOf key dat D L) {id : Nat} (hf : L.find? (fun j => key j == id) = none) : Maps.has D (idK id) = false ∧ ∀ z, D.atKey (idK id) z = z := by
  have h0 : Maps.has D (idK id) = false := by
    rw [h.has]
    exact any_noKey.2 fun x hx => by simpa using List.find?_eq_none.1 hf x hx
  exact ⟨h0, fun z => Maps.atKey_of_not_has h0 z⟩
theorem owns_tight {w : World} {P : Program} {k : TypeId} {R : Value → Option (DataW Unit × List MemPlace)} {b n : Nat} {D : DataW Unit} (h : w.ownsMap P k R b n D) : w.ownsMap P k R b (Maps.size D) D := by
  obtain ⟨es, clock, hb, F, _, rfl⟩ := h
  exact ⟨es, clock, hb, F, by simp [Maps.size, length_sorted], rfl⟩
theorem u32_wf {n : Nat} (h : n < 4294967296) : (Lit.int .u32 (n : Int)).wf = true := by
  simp only [Lit.wf, IntKind.min, IntKind.max, IntKind.signed, IntKind.bits, Bool.and_eq_true]
  constructor <;> simp <;> omega
end Go.Proofs.YtoapibbbooongaaDoor
