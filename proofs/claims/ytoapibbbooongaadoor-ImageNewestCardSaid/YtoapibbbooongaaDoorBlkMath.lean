/- Plain: a block as a sector's bytes, and what a sector says. -/
import Derived.Test.YtoapibbbooongaaDoorKnotC
import Derived.Test.YtoapibbbooongaaDoorSlabMath
namespace Go.Proofs.YtoapibbbooongaaDoor
open Go.RowKit Go.Quad _root_.Quad _root_.Quad.Slab

structure BlkD where
  kind : Nat
  epoch : Nat
  a : Nat
  b : Nat
  data : List UInt8
structure BlkD.Ok (x : BlkD) : Prop where
  kind : x.kind < 256
  epoch : x.epoch < 4294967296
  a : x.a < 4294967296
  b : x.b < 4294967296
def blkZ : BlkD := ⟨0, 0, 0, 0, []⟩

/-- a number as four bytes, and back -/
def le4 (n : Nat) : List UInt8 := [UInt8.ofNat n, UInt8.ofNat (n / 256), UInt8.ofNat (n / 65536), UInt8.ofNat (n / 16777216)]
def get4L : List UInt8 → Nat
  | a :: b :: c :: d :: _ => a.toNat + 256 * b.toNat + 65536 * c.toNat + 16777216 * d.toNat
  | _ => 0
def get4 (p : List UInt8) (i : Nat) : Nat := get4L (p.drop i)
theorem le4_length (n : Nat) : (le4 n).length = 4 := rfl
theorem tailL_le4 (c : BitVec 32) : tailL c = le4 c.toNat := rfl
theorem get4L_le4 (n : Nat) (r : List UInt8) (h : n < 4294967296) : get4L (le4 n ++ r) = n := by
  show (UInt8.ofNat n).toNat + 256 * (UInt8.ofNat (n / 256)).toNat + 65536 * (UInt8.ofNat (n / 65536)).toNat + 16777216 * (UInt8.ofNat (n / 16777216)).toNat = n
  simp only [UInt8.toNat_ofNat']
  omega
theorem get4L_lt (p : List UInt8) : get4L p < 4294967296 := by
  match p with
  | a :: b :: c :: d :: _ =>
    have := a.toNat_lt; have := b.toNat_lt; have := c.toNat_lt; have := d.toNat_lt
    show a.toNat + 256 * b.toNat + 65536 * c.toNat + 16777216 * d.toNat < 4294967296
    omega
  | [] => decide
  | [_] | [_, _] | [_, _, _] => (show (0 : Nat) < 4294967296; decide)
theorem le4_get4L (p : List UInt8) (h : 4 ≤ p.length) : le4 (get4L p) = p.take 4 := by
  match p, h with
  | a :: b :: c :: d :: r, _ =>
    have ha := a.toNat_lt; have hb := b.toNat_lt; have hc := c.toNat_lt; have hd := d.toNat_lt
    show [UInt8.ofNat (a.toNat + 256 * b.toNat + 65536 * c.toNat + 16777216 * d.toNat), UInt8.ofNat ((a.toNat + 256 * b.toNat + 65536 * c.toNat + 16777216 * d.toNat) / 256), UInt8.ofNat ((a.toNat + 256 * b.toNat + 65536 * c.toNat + 16777216 * d.toNat) / 65536), UInt8.ofNat ((a.toNat + 256 * b.toNat + 65536 * c.toNat + 16777216 * d.toNat) / 16777216)] = [a, b, c, d]
    simp only [List.cons.injEq, and_true]
    refine ⟨?_, ?_, ?_, ?_⟩ <;> (apply UInt8.toNat_inj.1; rw [UInt8.toNat_ofNat']; omega)
theorem le4_get4 (p : List UInt8) (i : Nat) (h : i + 4 ≤ p.length) : le4 (get4 p i) = (p.drop i).take 4 := le4_get4L _ (by rw [List.length_drop]; omega)

/-- a block's bytes -/
def headB (x : BlkD) : List UInt8 := UInt8.ofNat x.kind :: UInt8.ofNat x.data.length :: (le4 x.epoch ++ (le4 x.a ++ le4 x.b))
def bodyB (x : BlkD) : List UInt8 := headB x ++ (x.data ++ List.replicate (110 - x.data.length) 0)
def encB (x : BlkD) : List UInt8 := bodyB x ++ tailL (crc (bodyB x))
theorem headB_length (x : BlkD) : (headB x).length = 14 := rfl
theorem bodyB_length {x : BlkD} (h : x.data.length ≤ 110) : (bodyB x).length = 124 := by
  unfold bodyB; rw [List.length_append, List.length_append, List.length_replicate, headB_length]; omega
theorem encB_length {x : BlkD} (h : x.data.length ≤ 110) : (encB x).length = 128 := by
  unfold encB; rw [List.length_append, bodyB_length h, tailL_le4, le4_length]

/-- what a sector says -/
def nB (p : List UInt8) : Nat := (p.getD 1 0).toNat
def restB (p : List UInt8) : List UInt8 := (p.drop (14 + nB p)).take (110 - nB p)
def ofB (p : List UInt8) : BlkD := ⟨(p.getD 0 0).toNat, get4 p 2, get4 p 6, get4 p 10, (p.drop 14).take (nB p)⟩
def readB (p : List UInt8) : BlkD × Nat :=
  if p = List.replicate 128 0 then (blkZ, 6)
  else if get4 p 124 ≠ (crc (p.take 124)).toNat then (blkZ, 5)
  else if (p.getD 0 0).toNat = 0 ∨ 104 < nB p ∨ (restB p).all (· == 0) = false then (blkZ, 4)
  else (ofB p, 0)
/-- as the document says it -/
def refreadB (p : List UInt8) : BlkD × Nat :=
  if p = List.replicate 128 0 then (blkZ, 6)
  else if p.drop 124 ≠ tailL (crc (p.take 124)) then (blkZ, 5)
  else if (p.getD 0 0).toNat = 0 ∨ 104 < nB p then (blkZ, 4)
  else if encB (ofB p) ≠ p then (blkZ, 4)
  else (ofB p, 0)

theorem ofB_ok (p : List UInt8) : (ofB p).Ok := ⟨by unfold ofB; exact (p.getD 0 0).toNat_lt, get4L_lt _, get4L_lt _, get4L_lt _⟩
theorem ofB_data {p : List UInt8} (hp : p.length = 128) (hn : nB p ≤ 104) : (ofB p).data.length = nB p := by
  show ((p.drop 14).take (nB p)).length = _
  rw [List.length_take, List.length_drop]; omega

theorem sum_iff {p : List UInt8} (hp : p.length = 128) : get4 p 124 = (crc (p.take 124)).toNat ↔ p.drop 124 = tailL (crc (p.take 124)) := by
  have h1 := le4_get4 p 124 (by omega)
  rw [List.take_of_length_le (by rw [List.length_drop]; omega)] at h1
  rw [tailL_le4]
  constructor
  · intro h; rw [← h1, h]
  · intro h
    unfold get4
    rw [h]
    have := get4L_le4 (crc (p.take 124)).toNat [] (crc (p.take 124)).isLt
    simpa using this

theorem split14 {p : List UInt8} (hp : p.length = 128) : p.take 14 = UInt8.ofNat (p.getD 0 0).toNat :: UInt8.ofNat (nB p) :: (le4 (get4 p 2) ++ (le4 (get4 p 6) ++ le4 (get4 p 10))) := by
  rw [le4_get4 p 2 (by omega), le4_get4 p 6 (by omega), le4_get4 p 10 (by omega)]
  unfold nB
  match p, hp with
  | a :: b :: r, hp =>
    simp only [List.length_cons] at hp
    simp only [List.take_succ_cons, List.drop_succ_cons, List.drop_zero, List.getD_cons_zero, List.getD_cons_succ, UInt8.ofNat_toNat]
    congr 2
    have e1 : r.take 12 = r.take 4 ++ ((r.drop 4).take 4 ++ (r.drop 8).take 4) := by
      have h1 : r.take 12 = r.take 4 ++ (r.drop 4).take 8 := by rw [← List.take_add]
      have h2 : (r.drop 4).take 8 = (r.drop 4).take 4 ++ ((r.drop 4).drop 4).take 4 := by rw [← List.take_add]
      rw [h1, h2, List.drop_drop]
    exact e1

theorem enc_iff {p : List UInt8} (hp : p.length = 128) (hn : nB p ≤ 104) (hs : p.drop 124 = tailL (crc (p.take 124))) : encB (ofB p) = p ↔ (restB p).all (· == 0) = true := by
  have hd := ofB_data hp hn
  have hh : headB (ofB p) = p.take 14 := by
    rw [split14 hp]
    unfold headB
    rw [hd]
    rfl
  have hsplit : p.take 124 = p.take 14 ++ ((p.drop 14).take (nB p) ++ restB p) := by
    have h1 : p.take 124 = p.take 14 ++ (p.drop 14).take 110 := by rw [← List.take_add]
    have h2 : (p.drop 14).take 110 = (p.drop 14).take (nB p) ++ ((p.drop 14).drop (nB p)).take (110 - nB p) := by rw [← List.take_add]; congr 1; omega
    rw [h1, h2, List.drop_drop]
    rfl
  have hrl : (restB p).length = 110 - nB p := by unfold restB; rw [List.length_take, List.length_drop]; omega
  have hb : bodyB (ofB p) = p.take 14 ++ ((p.drop 14).take (nB p) ++ List.replicate (110 - nB p) 0) := by
    unfold bodyB
    rw [hh, hd]
    rfl
  constructor
  · intro h
    have h1 := congrArg (List.take 124) h
    unfold encB at h1
    rw [List.take_left' (bodyB_length (by omega)), hb, hsplit] at h1
    have h2 := List.append_cancel_left (List.append_cancel_left h1)
    rw [← h2]
    simp
  · intro h
    have hz : restB p = List.replicate (110 - nB p) 0 := by
      rw [List.eq_replicate_iff]
      refine ⟨hrl, fun x hx => ?_⟩
      have := List.all_eq_true.1 h x hx
      simpa using this
    have hbp : bodyB (ofB p) = p.take 124 := by rw [hb, hsplit, hz]
    unfold encB
    rw [hbp, ← hs, List.take_append_drop]

theorem readB_ref {p : List UInt8} (hp : p.length = 128) : readB p = refreadB p := by
  unfold readB refreadB
  by_cases h0 : p = List.replicate 128 0
  · rw [if_pos h0, if_pos h0]
  rw [if_neg h0, if_neg h0]
  by_cases h1 : get4 p 124 = (crc (p.take 124)).toNat
  · have h1' := (sum_iff hp).1 h1
    rw [if_neg (show ¬ (get4 p 124 ≠ (crc (p.take 124)).toNat) from fun h => h h1), if_neg (show ¬ (p.drop 124 ≠ tailL (crc (p.take 124))) from fun h => h h1')]
    by_cases h2 : (p.getD 0 0).toNat = 0 ∨ 104 < nB p
    · rw [if_pos (show (p.getD 0 0).toNat = 0 ∨ 104 < nB p ∨ (restB p).all (· == 0) = false from by rcases h2 with h | h; exact .inl h; exact .inr (.inl h)), if_pos h2]
    · rw [if_neg h2]
      have hn : nB p ≤ 104 := by omega
      have he := enc_iff hp hn h1'
      by_cases h3 : (restB p).all (· == 0) = true
      · rw [if_neg (show ¬ ((p.getD 0 0).toNat = 0 ∨ 104 < nB p ∨ (restB p).all (· == 0) = false) from by rw [h3]; simp only [Bool.true_eq_false, or_false]; exact h2), if_neg (show ¬ (encB (ofB p) ≠ p) from fun h => h (he.2 h3))]
      · rw [if_pos (show (p.getD 0 0).toNat = 0 ∨ 104 < nB p ∨ (restB p).all (· == 0) = false from .inr (.inr (by simpa using h3))), if_pos (show encB (ofB p) ≠ p from fun h => h3 (he.1 h))]
  · rw [if_pos (show get4 p 124 ≠ (crc (p.take 124)).toNat from h1), if_pos (show p.drop 124 ≠ tailL (crc (p.take 124)) from fun h => h1 ((sum_iff hp).2 h))]

theorem drop_le4 (n : Nat) (r : List UInt8) : (le4 n ++ r).drop 4 = r := rfl
theorem readB_enc {x : BlkD} (h : x.Ok) (hk : x.kind ≠ 0) (hl : x.data.length ≤ 104) : readB (encB x) = (x, 0) := by
  have hlen := encB_length (x := x) (by omega)
  have hbl := bodyB_length (x := x) (by omega)
  have e0 : (encB x).getD 0 0 = UInt8.ofNat x.kind := rfl
  have e1 : nB (encB x) = x.data.length := by
    show (UInt8.ofNat x.data.length).toNat = _
    rw [UInt8.toNat_ofNat']; omega
  have ek : ((encB x).getD 0 0).toNat = x.kind := by rw [e0, UInt8.toNat_ofNat']; have := h.kind; omega
  have t124 : (encB x).take 124 = bodyB x := by unfold encB; exact List.take_left' hbl
  have d124 : (encB x).drop 124 = tailL (crc (bodyB x)) := by unfold encB; exact List.drop_left' hbl
  have d14 : (encB x).drop 14 = x.data ++ (List.replicate (110 - x.data.length) 0 ++ tailL (crc (bodyB x))) := by
    unfold encB
    rw [show bodyB x ++ tailL (crc (bodyB x)) = headB x ++ ((x.data ++ List.replicate (110 - x.data.length) 0) ++ tailL (crc (bodyB x))) from by unfold bodyB; rw [List.append_assoc], List.drop_left' (headB_length x), List.append_assoc]
  have g2 : get4 (encB x) 2 = x.epoch := by
    have := get4L_le4 x.epoch ((le4 x.a ++ le4 x.b) ++ ((x.data ++ List.replicate (110 - x.data.length) 0) ++ tailL (crc (bodyB x)))) h.epoch
    unfold get4 encB
    rw [← this]
    congr 1
  have g6 : get4 (encB x) 6 = x.a := by
    have := get4L_le4 x.a (le4 x.b ++ ((x.data ++ List.replicate (110 - x.data.length) 0) ++ tailL (crc (bodyB x)))) h.a
    unfold get4 encB
    rw [← this]
    congr 1
  have g10 : get4 (encB x) 10 = x.b := by
    have := get4L_le4 x.b ((x.data ++ List.replicate (110 - x.data.length) 0) ++ tailL (crc (bodyB x))) h.b
    unfold get4 encB
    rw [← this]
    congr 1
  have g124 : get4 (encB x) 124 = (crc (bodyB x)).toNat := by
    unfold get4
    rw [d124, tailL_le4]
    have := get4L_le4 (crc (bodyB x)).toNat [] (crc (bodyB x)).isLt
    simpa using this
  have hrest : restB (encB x) = List.replicate (110 - x.data.length) 0 := by
    unfold restB
    rw [e1, ← List.drop_drop, d14, List.drop_left' rfl, List.take_left' (by simp)]
  unfold readB
  rw [if_neg (fun hz => ?_), g124, t124, if_neg (by simp), ek, e1, hrest, if_neg (by simp; omega)]
  · unfold ofB
    rw [ek, g2, g6, g10, e1, d14, List.take_left' rfl]
  · have := congrArg (fun l => (l.getD 0 0).toNat) hz
    rw [show ((encB x).getD 0 0).toNat = x.kind from ek] at this
    exact hk (by simpa using this)

/-- bits turned within 32: none any more -/
theorem readB_turned (x : BlkD) (hl : x.data.length ≤ 104) (at' pat : Nat) (hat : at' < 1024) (hp : pat.testBit 0 = true) : (readB (turnN at' pat 32 (encB x))).2 ≠ 0 := by
  intro hz
  have hlen := encB_length (x := x) (by omega)
  obtain ⟨q, hq⟩ : ∃ q, turnN at' pat 32 (encB x) = q := ⟨_, rfl⟩
  have hql : q.length = 128 := by rw [← hq, turnN_length, hlen]
  have hb := turnN_burst at' pat (encB x) (by rw [hlen]; omega)
  rw [hq] at hz hb
  have hs : get4 q 124 = (crc (q.take 124)).toNat := by
    unfold readB at hz
    split at hz
    · exact absurd hz (by show ¬ ((6 : Nat) = 0); decide)
    · split at hz
      · exact absurd hz (by show ¬ ((5 : Nat) = 0); decide)
      · rename_i h; exact Decidable.not_not.1 h
  have hs' := (sum_iff hql).1 hs
  have r1 := right_sum (q.take 124)
  rw [← hs', List.take_append_drop, hb] at r1
  have r2 := right_sum (bodyB x)
  rw [show bodyB x ++ tailL (crc (bodyB x)) = encB x from rfl] at r2
  have hx := feed_xor (bitsOf (encB x)) (burst at' pat (8 * (encB x).length)) (BitVec.allOnes 32) 0#32 (by rw [burst_length _ _ _ (by rw [hlen]; omega), bitsOf_length])
  rw [BitVec.xor_zero, r1, r2] at hx
  have h0 : feed 0#32 (burst at' pat (8 * (encB x).length)) = 0#32 := by
    have h1 := congrArg (fun x => stn 32 (BitVec.allOnes 32) ^^^ x) hx
    simp only [BitVec.xor_self] at h1
    rw [← BitVec.xor_assoc, BitVec.xor_self, BitVec.zero_xor] at h1
    exact h1.symm
  exact feed_burst_ne at' pat _ (by rw [hlen]; exact hat) hp h0

/-! ### on a slab -/
def putB (s : Sl) (i : Int) (x : BlkD) : Sl × Nat :=
  if i < 0 ∨ (s.done.length : Int) ≤ i then (s, 1) else if 104 < x.data.length then (s, 3) else if x.kind = 0 then (s, 4) else writeL s i (encB x)
def getB (s : Sl) (i : Int) : BlkD × Nat := if (readL s i).2 ≠ 0 then (blkZ, (readL s i).2) else readB (readL s i).1

structure RootD where
  turn : Nat
  epoch : Nat
  gen : Nat
  area : Nat
def rootZ : RootD := ⟨0, 0, 0, 0⟩
structure RootD.Ok (r : RootD) : Prop where
  turn : r.turn < 4294967296
  epoch : r.epoch < 4294967296
  gen : r.gen < 4294967296
  area : r.area < 256
/-- is a block a root of this place? -/
def isRoot (x : BlkD × Nat) (i : Nat) : Bool := decide (x.2 = 0) && decide (x.1.kind = 1) && decide (x.1.data.length = 1) && decide ((x.1.data.getD 0 0).toNat ≤ 1) && decide (x.1.a % 2 = i)
def rootOf (x : BlkD) : RootD := ⟨x.a, x.epoch, x.b, (x.data.getD 0 0).toNat⟩
def stepR (s : Sl) (i : Nat) (best : Option RootD) : Option RootD :=
  if isRoot (getB s i) i then (match best with | none => some (rootOf (getB s i).1) | some r => if r.turn < (getB s i).1.a then some (rootOf (getB s i).1) else some r) else best
/-- the root, or the error -/
def loadB (s : Sl) : RootD × Nat :=
  if (readL s 0).2 ≠ 0 then (rootZ, (readL s 0).2) else if (readL s 1).2 ≠ 0 then (rootZ, (readL s 1).2)
  else match stepR s 1 (stepR s 0 none) with | none => (rootZ, 4) | some r => (r, 0)
def rootBlk (r : RootD) : BlkD := ⟨1, r.epoch, r.turn, r.gen, [UInt8.ofNat r.area]⟩
def storeB (s : Sl) (r : RootD) : Sl × Nat :=
  if 1 < r.area then (s, 4) else if (putB s (r.turn % 2 : Nat) (rootBlk r)).2 ≠ 0 then putB s (r.turn % 2 : Nat) (rootBlk r) else flushL (putB s (r.turn % 2 : Nat) (rootBlk r)).1
end Go.Proofs.YtoapibbbooongaaDoor
