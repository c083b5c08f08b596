/- Plain: images of jobs on a slab. -/
import Derived.Test.YtoapibbbooongaaDoorBlkMapM
import Derived.Test.YtoapibbbooongaaDoorBlkRootM
namespace Go.Proofs.YtoapibbbooongaaDoor
open Go.RowKit Go.Quad _root_.Quad _root_.Quad.Slab

structure Img where
  job : Nat
  ver : Nat
  credit : Int
  blobs : List (List UInt8)
  at' : List Nat
def imgZ : Img := ⟨0, 0, 0, [], []⟩

/-! a list by rising keys -/
def stepK {α : Type} (key : α → Nat) (x : α) (p : List α × Bool) (y : α) : List α × Bool :=
  ((if p.2 = false ∧ key x ≤ key y then p.1 ++ [x] else p.1) ++ (if key y = key x then [] else [y]), p.2 || decide (key x ≤ key y))
def goK {α : Type} (key : α → Nat) (x : α) (L : List α) : List α × Bool := L.foldl (stepK key x) ([], false)
def setK {α : Type} (key : α → Nat) (x : α) (L : List α) : List α := if (goK key x L).2 then (goK key x L).1 else (goK key x L).1 ++ [x]
theorem foldK_done {α : Type} (key : α → Nat) (x : α) : ∀ (L : List α) (out : List α), (∀ y ∈ L, key x < key y) → L.foldl (stepK key x) (out, true) = (out ++ L, true)
  | [], out, _ => by simp
  | y :: L, out, h => by
    have hy := h y (List.mem_cons_self ..)
    rw [List.foldl_cons]
    have e : stepK key x (out, true) y = (out ++ [y], true) := by
      unfold stepK
      simp only [Bool.true_eq_false, false_and, if_false, Bool.true_or]
      rw [if_neg (by omega)]
    rw [e, foldK_done key x L _ fun z hz => h z (List.mem_cons_of_mem _ hz)]
    simp
theorem foldK {α : Type} (key : α → Nat) (x : α) : ∀ (L : List α) (out : List α), L.Pairwise (fun a b => key a < key b) →
    (if (L.foldl (stepK key x) (out, false)).2 then (L.foldl (stepK key x) (out, false)).1 else (L.foldl (stepK key x) (out, false)).1 ++ [x]) = out ++ (L.filter (fun y => decide (key y < key x)) ++ x :: L.filter (fun y => decide (key x < key y)))
  | [], out, _ => by simp
  | y :: L, out, h => by
    obtain ⟨h1, h2⟩ := List.pairwise_cons.1 h
    rw [List.foldl_cons]
    by_cases e : key x ≤ key y
    · have hL : ∀ z ∈ L, key x < key z := fun z hz => by have := h1 z hz; omega
      have e1 : stepK key x (out, false) y = (out ++ [x] ++ (if key y = key x then [] else [y]), true) := by
        unfold stepK
        rw [if_pos ⟨rfl, e⟩, decide_eq_true e]
        rfl
      rw [e1, foldK_done key x L _ hL, if_pos rfl]
      have f1 : L.filter (fun y => decide (key y < key x)) = [] := List.filter_eq_nil_iff.2 fun z hz => by have := hL z hz; rw [decide_eq_true_eq]; omega
      have f2 : L.filter (fun y => decide (key x < key y)) = L := List.filter_eq_self.2 fun z hz => by simpa using hL z hz
      rw [List.filter_cons_of_neg (by rw [decide_eq_true_eq]; omega), f1]
      by_cases q : key y = key x
      · rw [List.filter_cons_of_neg (by rw [decide_eq_true_eq]; omega), f2, if_pos q]; simp
      · rw [List.filter_cons_of_pos (by rw [decide_eq_true_eq]; omega), f2, if_neg q]; simp
    · have e1 : stepK key x (out, false) y = (out ++ [y], false) := by
        unfold stepK
        rw [if_neg (fun h => e h.2), decide_eq_false e, if_neg (by omega)]
        rfl
      rw [e1, foldK key x L _ h2, List.filter_cons_of_pos (by rw [decide_eq_true_eq]; omega), List.filter_cons_of_neg (by rw [decide_eq_true_eq]; omega)]
      simp
theorem setK_eq {α : Type} (key : α → Nat) (x : α) {L : List α} (h : L.Pairwise (fun a b => key a < key b)) :
    setK key x L = L.filter (fun y => decide (key y < key x)) ++ x :: L.filter (fun y => decide (key x < key y)) := by
  have := foldK key x L [] h
  unfold setK goK
  simpa using this
theorem setK_mem {α : Type} (key : α → Nat) (x : α) {L : List α} (h : L.Pairwise (fun a b => key a < key b)) (z : α) : z ∈ setK key x L ↔ z = x ∨ (z ∈ L ∧ key z ≠ key x) := by
  rw [setK_eq key x h]
  simp only [List.mem_append, List.mem_cons, List.mem_filter, decide_eq_true_eq]
  constructor
  · rintro (⟨h1, h2⟩ | rfl | ⟨h1, h2⟩)
    · exact .inr ⟨h1, by omega⟩
    · exact .inl rfl
    · exact .inr ⟨h1, by omega⟩
  · rintro (rfl | ⟨h1, h2⟩)
    · exact .inr (.inl rfl)
    · by_cases e : key z < key x
      · exact .inl ⟨h1, e⟩
      · exact .inr (.inr ⟨h1, by omega⟩)
theorem setK_sorted {α : Type} (key : α → Nat) (x : α) {L : List α} (h : L.Pairwise (fun a b => key a < key b)) : (setK key x L).Pairwise (fun a b => key a < key b) := by
  rw [setK_eq key x h, List.pairwise_append]
  refine ⟨h.filter _, List.pairwise_cons.2 ⟨fun z hz => by simpa using (List.mem_filter.1 hz).2, h.filter _⟩, fun a ha b hb => ?_⟩
  have h1 : key a < key x := by simpa using (List.mem_filter.1 ha).2
  rcases List.mem_cons.1 hb with rfl | hb
  · exact h1
  · have h2 : key x < key b := by simpa using (List.mem_filter.1 hb).2
    omega
theorem setK_map {α β : Type} (f : α → β) (ka : α → Nat) (kb : β → Nat) (hk : ∀ a, kb (f a) = ka a) (x : α) {L : List α} (h : L.Pairwise (fun a b => ka a < ka b)) : (setK ka x L).map f = setK kb (f x) (L.map f) := by
  have h' : (L.map f).Pairwise (fun a b => kb a < kb b) := by rw [List.pairwise_map]; simpa only [hk] using h
  rw [setK_eq ka x h, setK_eq kb (f x) h', List.map_append, List.map_cons, List.filter_map, List.filter_map]
  simp only [Function.comp_def, hk]

/-! what stands on the slab -/
def creditOf (d : List UInt8) : Nat := (d.getD 0 0).toNat + 256 * (d.getD 1 0).toNat + 65536 * (d.getD 2 0).toNat + 16777216 * (d.getD 3 0).toNat
def countOf (d : List UInt8) : Nat := (d.getD 4 0).toNat
def placeOf (d : List UInt8) (i : Nat) : Nat := (d.getD (5 + 2 * i) 0).toNat + 256 * (d.getD (5 + 2 * i + 1) 0).toNat
def blobOk (h : BlkD) (rank : Nat) (b : BlkD × Nat) : Bool :=
  decide (b.2 = 0) && (decide (b.1.kind = 5) && (decide (b.1.epoch = h.epoch) && (decide (b.1.a = h.a) && (decide (b.1.b = h.b) && (decide (b.1.data.length ≠ 0) && decide ((b.1.data.getD 0 0).toNat = rank))))))
/-- what the places read as -/
def seeG (s : Sl) (f : Nat) (i : Nat) : BlkD × Nat := getB s ((f + i : Nat) : Int)
/-- the blob of a rank at a place -/
def blobI (G : Nat → BlkD × Nat) (n : Nat) (h : BlkD) (at' rank : Nat) : Option (List UInt8) :=
  if n ≤ at' then none else if blobOk h rank (G at') then some ((G at').1.data.drop 1) else none
def blobsI (G : Nat → BlkD × Nat) (n : Nat) (h : BlkD) : Nat → Option (List (List UInt8))
  | 0 => some []
  | k + 1 => (blobsI G n h k).bind fun l => (blobI G n h (placeOf h.data k) k).map fun b => l ++ [b]
def headOk (h : BlkD) : Bool :=
  decide (h.kind = 6) && (decide (h.a ≠ 0) && (decide (5 ≤ h.data.length) && (decide (creditOf h.data ≤ 10000) && (decide (1 ≤ countOf h.data) && (decide (countOf h.data ≤ 16) && decide (h.data.length = 5 + 2 * countOf h.data))))))
/-- the image whose head that is -/
def imageI (G : Nat → BlkD × Nat) (n : Nat) (h : BlkD) (at' : Nat) : Option Img :=
  if headOk h then (blobsI G n h (countOf h.data)).map fun l => ⟨h.a, h.b, (creditOf h.data : Int), l, (List.range (countOf h.data)).map (placeOf h.data) ++ [at']⟩ else none
/-- the image whose head stands at a place -/
def thereI (G : Nat → BlkD × Nat) (n at' : Nat) : Option Img := if (G at').2 ≠ 0 then none else imageI G n (G at').1 at'
def findI (L : List Img) (job : Nat) : Option Img := L.find? (fun x => x.job == job)
def addI (L : List Img) (x : Option Img) : List Img :=
  match x with
  | none => L
  | some x => match findI L x.job with
    | none => setK Img.job x L
    | some y => if y.ver < x.ver then setK Img.job x L else L
def listI (G : Nat → BlkD × Nat) (n k : Nat) : List Img := (List.range k).foldl (fun L a => addI L (thereI G n a)) []
theorem listI_succ (G : Nat → BlkD × Nat) (n k : Nat) : listI G n (k + 1) = addI (listI G n k) (thereI G n k) := by unfold listI; rw [List.range_succ, List.foldl_append]; rfl
def usedI (n : Nat) (L : List Img) : List Bool := (List.range n).map fun i => L.any fun x => x.at'.contains i

/-- a part of a slab -/
structure Im where
  sl : Sl
  from' : Nat
  epoch : Nat
  L : List Img
  used : List Bool
  down : Bool
def openI (s : Sl) (a b : Int) (e : Nat) : Option Im × Nat :=
  if a < 0 ∨ b ≤ a ∨ (s.done.length : Int) < b then (none, 1) else if s.off then (none, 13) else
    (some ⟨s, a.toNat, e, listI (seeG s a.toNat) (b - a).toNat (b - a).toNat, usedI (b - a).toNat (listI (seeG s a.toNat) (b - a).toNat (b - a).toNat), false⟩, 0)
def readyI (c : Im) : Im × Nat := if c.down || c.sl.off then ({ c with down := true }, 13) else (c, 0)
def rightI (x : Img) : Nat := if x.job = 0 ∨ x.credit < 0 ∨ 10000 < x.credit ∨ x.blobs.length < 1 ∨ 16 < x.blobs.length then 1 else if x.blobs.any (fun b => decide (103 < b.length)) then 3 else 0
/-! the image's blocks, one by one -/
def blobB (e : Nat) (x : Img) (k : Nat) : BlkD := ⟨5, e, x.job, x.ver, UInt8.ofNat k :: x.blobs.getD k []⟩
def headD (x : Img) (k : Nat) : List UInt8 := [UInt8.ofNat x.credit.toNat, UInt8.ofNat (x.credit.toNat / 256), 0, 0, UInt8.ofNat x.blobs.length] ++ (x.at'.take k).flatMap fun i => [UInt8.ofNat i, UInt8.ofNat (i / 256)]
def headB' (e : Nat) (x : Img) : BlkD := ⟨6, e, x.job, x.ver, headD x x.blobs.length⟩
def wrBlobs (f e : Nat) (x : Img) (s : Sl) : Nat → Sl × Nat
  | 0 => (s, 0)
  | k + 1 => if (wrBlobs f e x s k).2 ≠ 0 then wrBlobs f e x s k else putB (wrBlobs f e x s k).1 ((f + x.at'.getD k 0 : Nat) : Int) (blobB e x k)
def thenS (p : Sl × Nat) (g : Sl → Sl × Nat) : Sl × Nat := if p.2 ≠ 0 then p else g p.1
def writeI (f e : Nat) (x : Img) (s : Sl) : Sl × Nat :=
  thenS (thenS (thenS (wrBlobs f e x s x.blobs.length) flushL) fun s => putB s ((f + x.at'.getD x.blobs.length 0 : Nat) : Int) (headB' e x)) flushL
def freeI (used : List Bool) (l : List Nat) : List Bool := l.foldl (fun m i => m.set i false) used
def atI (L : List Img) (job : Nat) : List Nat := match findI L job with | none => [] | some y => y.at'
def takenI (used : List Bool) (k : Nat) : List Nat := (freeP used used.length).take k
def markI (used : List Bool) (l : List Nat) : List Bool := l.foldl (fun m i => m.set i true) used
/-- its sectors are chosen -/
def placedI (c : Im) (x : Img) : Img := { x with at' := takenI c.used (x.blobs.length + 1) }
def putI (c : Im) (x : Img) : Im × Nat :=
  if c.down || c.sl.off then ({ c with down := true }, 13)
  else if rightI x ≠ 0 then (c, rightI x)
  else if (match findI c.L x.job with | none => false | some y => decide (x.ver ≤ y.ver)) then (c, 12)
  else if leftM c.used < x.blobs.length + 1 then (c, 8)
  else if (writeI c.from' c.epoch (placedI c x) c.sl).2 ≠ 0 then
    ({ c with sl := (writeI c.from' c.epoch (placedI c x) c.sl).1, used := markI c.used (takenI c.used (x.blobs.length + 1)), down := true }, (writeI c.from' c.epoch (placedI c x) c.sl).2)
  else ({ c with sl := (writeI c.from' c.epoch (placedI c x) c.sl).1, used := freeI (markI c.used (takenI c.used (x.blobs.length + 1))) (atI c.L x.job), L := setK Img.job (placedI c x) c.L }, 0)
def getI (c : Im) (job : Nat) : Img × Nat := match findI c.L job with | none => (imgZ, 6) | some x => (x, 0)
def dropS (c : Im) (x : Img) : Sl × Nat := thenS (writeL c.sl ((c.from' + x.at'.getD (x.at'.length - 1) 0 : Nat) : Int) []) flushL
def dropI (c : Im) (job : Nat) : Im × Nat :=
  if c.down || c.sl.off then ({ c with down := true }, 13)
  else match findI c.L job with
    | none => (c, 6)
    | some x => if (dropS c x).2 ≠ 0 then ({ c with sl := (dropS c x).1, down := true }, (dropS c x).2)
      else ({ c with sl := (dropS c x).1, used := freeI c.used x.at', L := c.L.filter fun y => y.job != job }, 0)
end Go.Proofs.YtoapibbbooongaaDoor
