/- The walks of layer 4: the document's form of a note. -/
import Derived.Test.YtmmcmldcbdaooaaDoorNoteL
import Derived.Test.YtmmcmldcbdaooaaDoorLib
import Derived.Test.YtmmcmldcbdaooaaDoorNoteA
namespace Go.Proofs.YtmmcmldcbdaooaaDoor
open Go.RowKit Go.Quad _root_.Quad _root_.Quad.Ink

def namesL (k : Nat) : List Nat :=
  if k = 1 then [2, 4] else if k = 2 then [1, 2, 3, 4] else if k = 3 then [6, 7, 8, 9] else if k = 4 then [6] else if k = 10 then [6] else if k = 11 then [6] else if k = 5 then [5, 6] else if k = 6 then [5] else
  if k = 7 then [5, 6, 10, 11] else if k = 8 then [6, 7, 9] else if k = 9 then [6, 7, 8, 12] else if k = 12 then [4, 6] else []
def nmV (k : Nat) : List Value := [.int .i64 (k : Int)]
def zeroAt (L : List Nat) (ks : List Nat) : List Nat := ks.foldl (fun l k => l.set k 0) L
def hasN (n : NoteD) : List Nat := [0, n.node, n.epoch, n.life, n.tick, n.gen, n.job, n.ver, n.rank, n.credit.toNat, n.frm, n.til, n.blob.length]
def guardN (n : NoteD) : Bool := decide (1 ≤ n.kind) && decide (n.kind ≤ 12) && decide (n.node < 16) && decide (n.rank < 16) && decide (0 ≤ n.credit) && decide (n.credit ≤ 10000) && decide (n.blob.length ≤ 1024)

theorem namesL_lt (k : Nat) : ∀ x ∈ namesL k, x < 13 := by
  have h : (namesL k).all (fun x => decide (x < 13)) = true := by
    unfold namesL
    repeat' split
    all_goals rfl
  intro x hx
  simpa using List.all_eq_true.1 h x hx
theorem namesL_len (k : Nat) : (namesL k).length ≤ 4 := by
  unfold namesL
  repeat' split
  all_goals simp
theorem zeroAt_length (L ks : List Nat) : (zeroAt L ks).length = L.length := by
  unfold zeroAt
  induction ks generalizing L with
  | nil => rfl
  | cons k ks ih => rw [List.foldl_cons, ih, List.length_set]
theorem zeroAt_step (L ks : List Nat) (j : Nat) (hj : j < ks.length) : zeroAt L (ks.take (j + 1)) = (zeroAt L (ks.take j)).set ks[j] 0 := by
  unfold zeroAt
  rw [List.take_succ_eq_append_getElem hj, List.foldl_append]
  rfl
theorem zeroAt_small {L ks : List Nat} (h : Small L) : Small (zeroAt L ks) := by
  unfold zeroAt
  induction ks generalizing L with
  | nil => exact h
  | cons k ks ih =>
    rw [List.foldl_cons]
    refine ih fun n hn => ?_
    rcases List.mem_or_eq_of_mem_set hn with h1 | rfl
    · exact h n h1
    · decide

theorem formN_eq (n : NoteD) : formN n = (guardN n && (zeroAt (hasN n) (namesL n.kind)).all (· == 0)) := by
  obtain ⟨kind, node, epoch, life, tick, gen, job, ver, rank, credit, frm, til, blob⟩ := n
  unfold formN guardN hasN
  dsimp only
  generalize blob.length = bl
  by_cases hk : 1 ≤ kind ∧ kind ≤ 12
  · have : kind = 1 ∨ kind = 2 ∨ kind = 3 ∨ kind = 4 ∨ kind = 5 ∨ kind = 6 ∨ kind = 7 ∨ kind = 8 ∨ kind = 9 ∨ kind = 10 ∨ kind = 11 ∨ kind = 12 := by omega
    rcases this with rfl | rfl | rfl | rfl | rfl | rfl | rfl | rfl | rfl | rfl | rfl | rfl
    all_goals
      rw [Bool.eq_iff_iff]
      simp [fOk, fNode, fEpoch, fLife, fTick, fGen, fJob, fVer, fRank, fCredit, fFrom, fTo, fBlob, namesL, zeroAt]
      omega
  · have h1 : fOk kind = false := by simp only [fOk]; simpa using hk
    rw [h1]
    have h2 : (decide (1 ≤ kind) && decide (kind ≤ 12)) = false := by simpa using hk
    simp only [h2, Bool.false_and]

theorem names_calls (k : Nat) (kv : Int) (hkv : kv = (k : Int)) (hk : k < 256) (w : World) : Calls Tryd.prog 75 #[.int .u8 kv] w fun e w' => ∃ v, e = .returned v ∧ RO nmV 1 w' w.heap.size 3 v (namesL k) ∧ Below w.heap.size w w' := by
  by_cases h1 : k = 1
  · subst h1
    obtain rfl : kv = 1 := hkv
    clear hk
    go_enter Tryd.func75, Tryd.ntmps75
    go_wp2_with fail
    go_ret
    exact ⟨_, rfl, ⟨rfl, .inr ⟨w.heap.size, 2, _, rfl, Nat.le_refl _, heap_alloc_new w _, by decide, by decide, by decide, by rfl⟩⟩, below_alloc _ _⟩
  by_cases h2 : k = 2
  · subst h2
    obtain rfl : kv = 2 := hkv
    clear h1 hk
    go_enter Tryd.func75, Tryd.ntmps75
    go_wp2_with fail
    go_ret
    exact ⟨_, rfl, ⟨rfl, .inr ⟨w.heap.size, 4, _, rfl, Nat.le_refl _, heap_alloc_new w _, by decide, by decide, by decide, by rfl⟩⟩, below_alloc _ _⟩
  by_cases h3 : k = 3
  · subst h3
    obtain rfl : kv = 3 := hkv
    clear h1 h2 hk
    go_enter Tryd.func75, Tryd.ntmps75
    go_wp2_with fail
    go_ret
    exact ⟨_, rfl, ⟨rfl, .inr ⟨w.heap.size, 4, _, rfl, Nat.le_refl _, heap_alloc_new w _, by decide, by decide, by decide, by rfl⟩⟩, below_alloc _ _⟩
  by_cases h4 : k = 4
  · subst h4
    obtain rfl : kv = 4 := hkv
    clear h1 h2 h3 hk
    go_enter Tryd.func75, Tryd.ntmps75
    go_wp2_with fail
    go_ret
    exact ⟨_, rfl, ⟨rfl, .inr ⟨w.heap.size, 1, _, rfl, Nat.le_refl _, heap_alloc_new w _, by decide, by decide, by decide, by rfl⟩⟩, below_alloc _ _⟩
  by_cases h10 : k = 10
  · subst h10
    obtain rfl : kv = 10 := hkv
    clear h1 h2 h3 h4 hk
    go_enter Tryd.func75, Tryd.ntmps75
    go_wp2_with fail
    go_ret
    exact ⟨_, rfl, ⟨rfl, .inr ⟨w.heap.size, 1, _, rfl, Nat.le_refl _, heap_alloc_new w _, by decide, by decide, by decide, by rfl⟩⟩, below_alloc _ _⟩
  by_cases h11 : k = 11
  · subst h11
    obtain rfl : kv = 11 := hkv
    clear h1 h2 h3 h4 h10 hk
    go_enter Tryd.func75, Tryd.ntmps75
    go_wp2_with fail
    go_ret
    exact ⟨_, rfl, ⟨rfl, .inr ⟨w.heap.size, 1, _, rfl, Nat.le_refl _, heap_alloc_new w _, by decide, by decide, by decide, by rfl⟩⟩, below_alloc _ _⟩
  by_cases h5 : k = 5
  · subst h5
    obtain rfl : kv = 5 := hkv
    clear h1 h2 h3 h4 h10 h11 hk
    go_enter Tryd.func75, Tryd.ntmps75
    go_wp2_with fail
    go_ret
    exact ⟨_, rfl, ⟨rfl, .inr ⟨w.heap.size, 2, _, rfl, Nat.le_refl _, heap_alloc_new w _, by decide, by decide, by decide, by rfl⟩⟩, below_alloc _ _⟩
  by_cases h6 : k = 6
  · subst h6
    obtain rfl : kv = 6 := hkv
    clear h1 h2 h3 h4 h10 h11 h5 hk
    go_enter Tryd.func75, Tryd.ntmps75
    go_wp2_with fail
    go_ret
    exact ⟨_, rfl, ⟨rfl, .inr ⟨w.heap.size, 1, _, rfl, Nat.le_refl _, heap_alloc_new w _, by decide, by decide, by decide, by rfl⟩⟩, below_alloc _ _⟩
  by_cases h7 : k = 7
  · subst h7
    obtain rfl : kv = 7 := hkv
    clear h1 h2 h3 h4 h10 h11 h5 h6 hk
    go_enter Tryd.func75, Tryd.ntmps75
    go_wp2_with fail
    go_ret
    exact ⟨_, rfl, ⟨rfl, .inr ⟨w.heap.size, 4, _, rfl, Nat.le_refl _, heap_alloc_new w _, by decide, by decide, by decide, by rfl⟩⟩, below_alloc _ _⟩
  by_cases h8 : k = 8
  · subst h8
    obtain rfl : kv = 8 := hkv
    clear h1 h2 h3 h4 h10 h11 h5 h6 h7 hk
    go_enter Tryd.func75, Tryd.ntmps75
    go_wp2_with fail
    go_ret
    exact ⟨_, rfl, ⟨rfl, .inr ⟨w.heap.size, 3, _, rfl, Nat.le_refl _, heap_alloc_new w _, by decide, by decide, by decide, by rfl⟩⟩, below_alloc _ _⟩
  by_cases h9 : k = 9
  · subst h9
    obtain rfl : kv = 9 := hkv
    clear h1 h2 h3 h4 h10 h11 h5 h6 h7 h8 hk
    go_enter Tryd.func75, Tryd.ntmps75
    go_wp2_with fail
    go_ret
    exact ⟨_, rfl, ⟨rfl, .inr ⟨w.heap.size, 4, _, rfl, Nat.le_refl _, heap_alloc_new w _, by decide, by decide, by decide, by rfl⟩⟩, below_alloc _ _⟩
  by_cases h12 : k = 12
  · subst h12
    obtain rfl : kv = 12 := hkv
    clear h1 h2 h3 h4 h10 h11 h5 h6 h7 h8 h9 hk
    go_enter Tryd.func75, Tryd.ntmps75
    go_wp2_with fail
    go_ret
    exact ⟨_, rfl, ⟨rfl, .inr ⟨w.heap.size, 2, _, rfl, Nat.le_refl _, heap_alloc_new w _, by decide, by decide, by decide, by rfl⟩⟩, below_alloc _ _⟩
  · have g0 := hkv
    have g1 : (kv == 1) = false := by simp; omega
    have g2 : (kv == 2) = false := by simp; omega
    have g3 : (kv == 3) = false := by simp; omega
    have g4 : (kv == 4) = false := by simp; omega
    have g10 : (kv == 10) = false := by simp; omega
    have g11 : (kv == 11) = false := by simp; omega
    have g5 : (kv == 5) = false := by simp; omega
    have g6 : (kv == 6) = false := by simp; omega
    have g7 : (kv == 7) = false := by simp; omega
    have g8 : (kv == 8) = false := by simp; omega
    have g9 : (kv == 9) = false := by simp; omega
    have g12 : (kv == 12) = false := by simp; omega
    have hL : namesL k = [] := by unfold namesL; simp only [if_neg h1, if_neg h2, if_neg h3, if_neg h4, if_neg h10, if_neg h11, if_neg h5, if_neg h6, if_neg h7, if_neg h8, if_neg h9, if_neg h12]
    rw [hL]
    clear h1 h2 h3 h4 h10 h11 h5 h6 h7 h8 h9 h12 hL hkv g0
    go_enter Tryd.func75, Tryd.ntmps75
    go_wp2_with fail
    go_ret
    exact ⟨_, rfl, RO.nil _ _ _ _ _, Below.refl _ _⟩

def FmRel (w : World) (g B : Nat) (nv : Value) (L ks : List Nat) (iv : Value) (wr : World) : Prop :=
  ∃ j : Nat, iv = .int .i64 (j : Int) ∧ j ≤ ks.length ∧ Blk wr g ((zeroAt L (ks.take j)).map u64v) 74 ∧ RO nmV 1 wr B 3 nv ks ∧ Below w.heap.size w wr
def FmRel2 (w : World) (Z : List Nat) (iv : Value) (wr : World) : Prop :=
  wr = w ∧ ∃ j : Nat, iv = .int .i64 (j : Int) ∧ j ≤ Z.length ∧ (Z.take j).all (· == 0) = true

set_option maxRecDepth 100000 in
set_option maxHeartbeats 8000000 in
theorem refForm_calls (n : NoteD) (a : Option Addr) (c : Nat) (w : World) (h : n.Ok) (hb : n.blob.length ≤ 9223372036854775807) :
    Calls Tryd.prog 42 #[.agg (noteV n (.slice a n.blob.length c)).toArray] w (Said (formN n) w) := by
  rw [formN_eq]
  have hlt := namesL_lt n.kind
  have hle := namesL_len n.kind
  have hnm := fun w' => names_calls n.kind n.kind rfl h.kind w'
  unfold hasN guardN
  obtain ⟨kind, node, epoch, life, tick, gen, job, ver, rank, credit, frm, til, blob⟩ := n
  obtain ⟨h1, h2, h3, h4, h5, h6, h7, h8, h9, h10, h11, h12⟩ := h
  simp only [noteV]
  dsimp only at h1 h2 h3 h4 h5 h6 h7 h8 h9 h10 h11 h12 hb hlt hle hnm ⊢
  obtain ⟨bl, hbl⟩ : ∃ bl, blob.length = bl := ⟨_, rfl⟩
  rw [hbl] at hb ⊢
  clear hbl
  have b1 : (bl : Int) ≤ 9223372036854775807 := by omega
  have b2 : (node : Int) ≤ 255 := by omega
  have b3 : (rank : Int) ≤ 255 := by omega
  have b4 : (kind : Int) ≤ 255 := by omega
  have Hnm := hid hnm
  have Hlt := hid hlt
  have Hle := hid hle
  clear hnm hlt hle
  by_cases t0 : 1 ≤ kind
  case' neg =>
    have Fin := hid (show ((decide (1 ≤ kind) && decide (kind ≤ 12) && decide (node < 16) && decide (rank < 16) && decide (0 ≤ credit) && decide (credit ≤ 10000) && decide (bl ≤ 1024)) && (zeroAt [0, node, epoch, life, tick, gen, job, ver, rank, credit.toNat, frm, til, bl] (namesL kind)).all (· == 0)) = false from by simp [t0])
    have u0 : decide ((kind : Int) < 1) = true := by simp; omega
    rw [Fin.out]
    clear t0 Fin Hnm Hlt Hle
    go_enter Tryd.func42, Tryd.ntmps42
    go_wp2_with fail
    go_ret
    exact ⟨rfl, below_alloc _ _⟩
  have u0 : decide ((kind : Int) < 1) = false := by simp; omega
  by_cases t1 : kind ≤ 12
  case' neg =>
    have Fin := hid (show ((decide (1 ≤ kind) && decide (kind ≤ 12) && decide (node < 16) && decide (rank < 16) && decide (0 ≤ credit) && decide (credit ≤ 10000) && decide (bl ≤ 1024)) && (zeroAt [0, node, epoch, life, tick, gen, job, ver, rank, credit.toNat, frm, til, bl] (namesL kind)).all (· == 0)) = false from by simp [t1])
    have u1 : decide ((12 : Int) < (kind : Int)) = true := by simp; omega
    rw [Fin.out]
    clear t1 Fin Hnm Hlt Hle
    go_enter Tryd.func42, Tryd.ntmps42
    go_wp2_with fail
    go_ret
    exact ⟨rfl, below_alloc _ _⟩
  have u1 : decide ((12 : Int) < (kind : Int)) = false := by simp; omega
  by_cases t2 : node < 16
  case' neg =>
    have Fin := hid (show ((decide (1 ≤ kind) && decide (kind ≤ 12) && decide (node < 16) && decide (rank < 16) && decide (0 ≤ credit) && decide (credit ≤ 10000) && decide (bl ≤ 1024)) && (zeroAt [0, node, epoch, life, tick, gen, job, ver, rank, credit.toNat, frm, til, bl] (namesL kind)).all (· == 0)) = false from by simp [t2])
    have u2 : decide ((15 : Int) < (node : Int)) = true := by simp; omega
    rw [Fin.out]
    clear t2 Fin Hnm Hlt Hle
    go_enter Tryd.func42, Tryd.ntmps42
    go_wp2_with fail
    go_ret
    exact ⟨rfl, below_alloc _ _⟩
  have u2 : decide ((15 : Int) < (node : Int)) = false := by simp; omega
  by_cases t3 : rank < 16
  case' neg =>
    have Fin := hid (show ((decide (1 ≤ kind) && decide (kind ≤ 12) && decide (node < 16) && decide (rank < 16) && decide (0 ≤ credit) && decide (credit ≤ 10000) && decide (bl ≤ 1024)) && (zeroAt [0, node, epoch, life, tick, gen, job, ver, rank, credit.toNat, frm, til, bl] (namesL kind)).all (· == 0)) = false from by simp [t3])
    have u3 : decide ((15 : Int) < (rank : Int)) = true := by simp; omega
    rw [Fin.out]
    clear t3 Fin Hnm Hlt Hle
    go_enter Tryd.func42, Tryd.ntmps42
    go_wp2_with fail
    go_ret
    exact ⟨rfl, below_alloc _ _⟩
  have u3 : decide ((15 : Int) < (rank : Int)) = false := by simp; omega
  by_cases t4 : 0 ≤ credit
  case' neg =>
    have Fin := hid (show ((decide (1 ≤ kind) && decide (kind ≤ 12) && decide (node < 16) && decide (rank < 16) && decide (0 ≤ credit) && decide (credit ≤ 10000) && decide (bl ≤ 1024)) && (zeroAt [0, node, epoch, life, tick, gen, job, ver, rank, credit.toNat, frm, til, bl] (namesL kind)).all (· == 0)) = false from by simp [t4])
    have u4 : decide (credit < 0) = true := by simp; omega
    rw [Fin.out]
    clear t4 Fin Hnm Hlt Hle
    go_enter Tryd.func42, Tryd.ntmps42
    go_wp2_with fail
    go_ret
    exact ⟨rfl, below_alloc _ _⟩
  have u4 : decide (credit < 0) = false := by simp; omega
  by_cases t5 : credit ≤ 10000
  case' neg =>
    have Fin := hid (show ((decide (1 ≤ kind) && decide (kind ≤ 12) && decide (node < 16) && decide (rank < 16) && decide (0 ≤ credit) && decide (credit ≤ 10000) && decide (bl ≤ 1024)) && (zeroAt [0, node, epoch, life, tick, gen, job, ver, rank, credit.toNat, frm, til, bl] (namesL kind)).all (· == 0)) = false from by simp [t5])
    have u5 : decide ((10000 : Int) < credit) = true := by simp; omega
    rw [Fin.out]
    clear t5 Fin Hnm Hlt Hle
    go_enter Tryd.func42, Tryd.ntmps42
    go_wp2_with fail
    go_ret
    exact ⟨rfl, below_alloc _ _⟩
  have u5 : decide ((10000 : Int) < credit) = false := by simp; omega
  by_cases t6 : bl ≤ 1024
  case' neg =>
    have Fin := hid (show ((decide (1 ≤ kind) && decide (kind ≤ 12) && decide (node < 16) && decide (rank < 16) && decide (0 ≤ credit) && decide (credit ≤ 10000) && decide (bl ≤ 1024)) && (zeroAt [0, node, epoch, life, tick, gen, job, ver, rank, credit.toNat, frm, til, bl] (namesL kind)).all (· == 0)) = false from by simp [t6])
    have u6 : decide ((1024 : Int) < (bl : Int)) = true := by simp; omega
    rw [Fin.out]
    clear t6 Fin Hnm Hlt Hle
    go_enter Tryd.func42, Tryd.ntmps42
    go_wp2_with fail
    go_ret
    exact ⟨rfl, below_alloc _ _⟩
  have u6 : decide ((1024 : Int) < (bl : Int)) = false := by simp; omega
  rw [show (decide (1 ≤ kind) && decide (kind ≤ 12) && decide (node < 16) && decide (rank < 16) && decide (0 ≤ credit) && decide (credit ≤ 10000) && decide (bl ≤ 1024)) = true from by simp [t0, t1, t2, t3, t4, t5, t6], Bool.true_and]
  obtain ⟨cr, rfl⟩ : ∃ cr : Nat, credit = (cr : Int) := ⟨credit.toNat, by omega⟩
  rw [Int.toNat_natCast]
  have q1 : (cr : Int) ≤ 10000 := by omega
  have q2 : (bl : Int) ≤ 1024 := by omega
  clear t0 t1 t2 t3 t4 t5 t6
  have HS := hid (show Small [0, node, epoch, life, tick, gen, job, ver, rank, cr, frm, til, bl] from by intro x hx; simp only [List.mem_cons, List.not_mem_nil, or_false] at hx; omega)
  obtain ⟨g0, hg0⟩ : ∃ g, w.heap.size = g := ⟨_, rfl⟩
  have hb1 := below_alloc w (.cells ([.int .u8 (kind : Int), .int .u8 (node : Int), .int .u32 (epoch : Int), .int .u32 (life : Int), .int .u32 (tick : Int), .int .u32 (gen : Int), .int .u32 (job : Int), .int .u32 (ver : Int), .int .u8 (rank : Int), .int .i64 (cr : Int), .int .u32 (frm : Int), .int .u32 (til : Int), .slice a bl c]).toArray 25)
  have hb2 := below_alloc (w.alloc (.cells ([.int .u8 (kind : Int), .int .u8 (node : Int), .int .u32 (epoch : Int), .int .u32 (life : Int), .int .u32 (tick : Int), .int .u32 (gen : Int), .int .u32 (job : Int), .int .u32 (ver : Int), .int .u8 (rank : Int), .int .i64 (cr : Int), .int .u32 (frm : Int), .int .u32 (til : Int), .slice a bl c]).toArray 25)) (.cells ([0, node, epoch, life, tick, gen, job, ver, rank, cr, frm, til, bl].map u64v).toArray 74)
  have B1 := (blk_alloc w [.int .u8 (kind : Int), .int .u8 (node : Int), .int .u32 (epoch : Int), .int .u32 (life : Int), .int .u32 (tick : Int), .int .u32 (gen : Int), .int .u32 (job : Int), .int .u32 (ver : Int), .int .u8 (rank : Int), .int .i64 (cr : Int), .int .u32 (frm : Int), .int .u32 (til : Int), .slice a bl c] 25).below hb2
  have B2 := hid (show Blk ((w.alloc (.cells ([.int .u8 (kind : Int), .int .u8 (node : Int), .int .u32 (epoch : Int), .int .u32 (life : Int), .int .u32 (tick : Int), .int .u32 (gen : Int), .int .u32 (job : Int), .int .u32 (ver : Int), .int .u8 (rank : Int), .int .i64 (cr : Int), .int .u32 (frm : Int), .int .u32 (til : Int), .slice a bl c]).toArray 25)).alloc (.cells ([0, node, epoch, life, tick, gen, job, ver, rank, cr, frm, til, bl].map u64v).toArray 74)) (g0 + 1) ([0, node, epoch, life, tick, gen, job, ver, rank, cr, frm, til, bl].map u64v) 74 from by have := blk_alloc (w.alloc (.cells ([.int .u8 (kind : Int), .int .u8 (node : Int), .int .u32 (epoch : Int), .int .u32 (life : Int), .int .u32 (tick : Int), .int .u32 (gen : Int), .int .u32 (job : Int), .int .u32 (ver : Int), .int .u8 (rank : Int), .int .i64 (cr : Int), .int .u32 (frm : Int), .int .u32 (til : Int), .slice a bl c]).toArray 25)) ([0, node, epoch, life, tick, gen, job, ver, rank, cr, frm, til, bl].map u64v) 74; rw [show (w.alloc (.cells ([.int .u8 (kind : Int), .int .u8 (node : Int), .int .u32 (epoch : Int), .int .u32 (life : Int), .int .u32 (tick : Int), .int .u32 (gen : Int), .int .u32 (job : Int), .int .u32 (ver : Int), .int .u8 (rank : Int), .int .i64 (cr : Int), .int .u32 (frm : Int), .int .u32 (til : Int), .slice a bl c]).toArray 25)).heap.size = g0 + 1 from by rw [← hg0]; simp] at this; exact this)
  rw [hg0] at B1
  have BW := hid (below_step hb1 hb2)
  have hgs := hid (show ((w.alloc (.cells ([.int .u8 (kind : Int), .int .u8 (node : Int), .int .u32 (epoch : Int), .int .u32 (life : Int), .int .u32 (tick : Int), .int .u32 (gen : Int), .int .u32 (job : Int), .int .u32 (ver : Int), .int .u8 (rank : Int), .int .i64 (cr : Int), .int .u32 (frm : Int), .int .u32 (til : Int), .slice a bl c]).toArray 25)).alloc (.cells ([0, node, epoch, life, tick, gen, job, ver, rank, cr, frm, til, bl].map u64v).toArray 74)).heap.size = g0 + 2 from by rw [← hg0]; simp)
  have ck := B1.get 0 rfl
  clear hb1 hb2 B1
  obtain ⟨res, hres⟩ : ∃ res, (zeroAt [0, node, epoch, life, tick, gen, job, ver, rank, cr, frm, til, bl] (namesL kind)).all (· == 0) = res := ⟨_, rfl⟩
  rw [hres]
  go_enter Tryd.func42, Tryd.ntmps42
  go_wp2_with fail
  refine (Hnm.out _).mono ?_
  rintro e w2 ⟨nv, rfl, ho, hb⟩
  simp only [List.map_cons, List.map_nil, u64v] at B2
  replace ho := RO.base' ho (Nat.le_of_eq hgs.out.symm)
  replace B2 := hid (B2.out.below hb)
  replace BW := hid (BW.out.trans (hb.mono BW.out.size))
  generalize hL : [0, node, epoch, life, tick, gen, job, ver, rank, cr, frm, til, bl] = L at HS hres
  have HLn := hid (show L.length = 13 from by rw [← hL]; rfl)
  replace B2 := hid (show Blk w2 (g0 + 1) (L.map u64v) 74 from by rw [← hL]; exact B2.out)
  generalize namesL kind = ks at ho Hlt Hle hres
  have Hres := hid hres
  clear hres hL hb ck hgs Hnm
  have RO0 := hid ho
  obtain ⟨an, nn, cn, rfl, hnn, hnc, _⟩ := RO.cs ho
  have Hnn := hid hnn
  have hn4 : (nn : Int) ≤ 4 := by have := Hle.out; omega
  clear ho hnn
  go_wp2_with fail
  go_loopw [84] (fun iv wr => FmRel w (g0 + 1) (g0 + 2) (.slice an nn cn) L ks iv wr) (fun iv _ => ks.length - (intOf iv).toNat)
  case atStart => exact ⟨0, rfl, Nat.zero_le _, B2.out, RO0.out, BW.out⟩
  case round =>
    clear B2 RO0 BW
    obtain ⟨j, rfl, hj, hz, ho, hb⟩ := hrel
    have Z := hid hz
    have O := hid ho
    have B := hid hb
    clear hz ho hb
    by_cases hlt : j < ks.length
    · obtain ⟨a', n', c', e', _, _, hcs⟩ := RO.cs O.out
      simp only [Value.slice.injEq] at e'
      obtain ⟨rfl, _, rfl⟩ := e'
      obtain ⟨b, off, rfl, hcell⟩ := cs_row (f := nmV) (fun _ => rfl) hcs hlt (by decide)
      have d := hcell 0 _ rfl
      rw [Nat.mul_one, Nat.add_zero] at d
      have hx := Hlt.out _ (List.getElem_mem hlt)
      have hst := hid (zeroAt_step L ks j hlt)
      have hbk : b ≠ g0 + 1 := by have := (RO.ownBlock O.out b rfl).1; omega
      generalize ks[j] = x at d hx hst
      have hx' : (x : Int) < 13 := by omega
      have hzl : (zeroAt L (ks.take j)).length = 13 := by rw [zeroAt_length, HLn.out]
      have dz := Z.out.get x (v := u64v ((zeroAt L (ks.take j))[x]'(by omega))) (by rw [List.getElem?_map, List.getElem?_eq_getElem (by omega)]; rfl)
      have fz := Z.out.free x
      generalize (zeroAt L (ks.take j))[x]'(by omega) = y at dz
      unfold u64v at dz
      have hj' : (j : Int) < (nn : Int) := by have := Hnn.out; omega
      clear hcs hcell hzl hx
      go_wp2_with fail
      have hcg := chg_setCell wr (g0 + 1) x (.int .u64 0)
      have R : FmRel w (g0 + 1) (g0 + 2) (.slice (some ⟨b, off, none⟩) nn cn) L ks (.int .i64 ((j : Int) + 1)) (wr.setCell ⟨g0 + 1, x, none⟩ (.int .u64 0)) := by
        refine ⟨j + 1, by go_num, hlt, ?_, RO.chg O.out hcg ?_, B.out.setCell (show w.heap.size ≤ g0 + 1 by omega) _⟩
        · have := Z.out.set x (.int .u64 0)
          rw [hst.out, List.map_set]
          exact this
        · intro k hk
          have := (RO.ownBlock O.out k hk).1
          simp
          omega
      refine ⟨?_, by simp [intOf]; omega⟩
      first | exact R | ((repeat apply Exists.intro); refine ⟨R, ?_⟩; and_intros <;> rfl)
    · have hj' : ¬ ((j : Int) < (nn : Int)) := by have := Hnn.out; omega
      have hz := Z.out
      rw [List.take_of_length_le (by omega)] at hz
      have hzl := (zeroAt_length L ks).trans HLn.out
      generalize zeroAt L ks = Y at hz hzl Hres
      have ZY := hid hz
      clear hz Z O Hlt Hle HLn HS Hnn hj hlt
      obtain ⟨w5, rfl⟩ : ∃ w5 : World, w5 = wr := ⟨_, rfl⟩
      go_wp2_with fail
      go_loopw [94] (fun iv wr => FmRel2 w5 Y iv wr) (fun iv _ => 13 - (intOf iv).toNat)
      case atStart => exact ⟨rfl, 0, rfl, Nat.zero_le _, rfl⟩
      case round =>
        obtain ⟨rfl, j, rfl, hj, hall⟩ := hrel
        have All := hid hall
        clear hall
        by_cases hlt : j < 13
        · have dz := ZY.out.get j (v := u64v (Y[j]'(by omega))) (by rw [List.getElem?_map, List.getElem?_eq_getElem (by omega)]; rfl)
          have Hy := hid (show ∀ y : Nat, Y[j]'(by omega) = y → Y.take (j + 1) = Y.take j ++ [y] ∧ Y = (Y.take j ++ [y]) ++ Y.drop (j + 1) from by
            rintro y rfl
            have h1 := List.take_succ_eq_append_getElem (l := Y) (i := j) (by omega)
            exact ⟨h1, by rw [← h1, List.take_append_drop]⟩)
          unfold u64v at dz
          generalize hy : Y[j]'(by omega) = y at dz
          have Hy' := hid (Hy.out y hy)
          clear hy Hy
          have hj' : (j : Int) < 13 := by omega
          by_cases h0 : y = 0
          · subst h0
            go_wp2_with fail
            have R : FmRel2 wr Y (.int .i64 ((j : Int) + 1)) wr := ⟨rfl, j + 1, by go_num, by omega, by rw [Hy'.out.1, List.all_append, All.out]; rfl⟩
            refine ⟨?_, by simp [intOf]; omega⟩
            first | exact R | ((repeat apply Exists.intro); refine ⟨R, ?_⟩; and_intros <;> rfl)
          · have hy0 : ((y : Int) == 0) = false := by simp; omega
            have hf := hid (show (Y.all fun x => x == 0) = false from by rw [Hy'.out.2, List.all_append, List.all_append]; simp [h0])
            obtain rfl := hf.out.symm.trans Hres.out
            clear h0
            go_wp2_with fail
            go_ret
            exact ⟨rfl, B.out⟩
        · have hj' : ¬ ((j : Int) < 13) := by omega
          have hf := hid (show (Y.all fun x => x == 0) = true from by have := All.out; rwa [List.take_of_length_le (by omega)] at this)
          obtain rfl := hf.out.symm.trans Hres.out
          go_wp2_with fail
          go_ret
          exact ⟨rfl, B.out⟩
end Go.Proofs.YtmmcmldcbdaooaaDoor
