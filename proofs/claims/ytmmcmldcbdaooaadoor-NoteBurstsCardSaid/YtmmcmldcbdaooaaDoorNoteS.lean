/- The walks of layer 4: are two notes alike, two packets? -/
import Derived.Test.YtmmcmldcbdaooaaDoorNoteC
import Derived.Test.YtmmcmldcbdaooaaDoorRowOps
namespace Go.Proofs.YtmmcmldcbdaooaaDoor
open Go.RowKit Go.Quad _root_.Quad _root_.Quad.Ink

def sameN (a b : NoteD) : Bool := a.kind == b.kind && a.node == b.node && a.epoch == b.epoch && a.life == b.life && a.tick == b.tick && a.gen == b.gen && a.job == b.job && a.ver == b.ver && a.rank == b.rank && a.credit == b.credit && a.frm == b.frm && a.til == b.til && a.blob == b.blob

theorem sameN_eq (a b : NoteD) : sameN a b = true ↔ a = b := by
  obtain ⟨kind1, node1, epoch1, life1, tick1, gen1, job1, ver1, rank1, credit1, frm1, til1, blob1⟩ := a
  obtain ⟨kind2, node2, epoch2, life2, tick2, gen2, job2, ver2, rank2, credit2, frm2, til2, blob2⟩ := b
  simp only [sameN, Bool.and_eq_true, beq_iff_eq, NoteD.mk.injEq, and_assoc]

set_option maxRecDepth 100000 in
set_option maxHeartbeats 8000000 in
theorem sameN_calls (x y : NoteD) (a1 a2 : Option Addr) (c1 c2 : Nat) (w : World) (h1 : x.Ok) (h2 : y.Ok) (hb1 : BS w a1 c1 x.blob) (hb2 : BS w a2 c2 y.blob) :
    Calls Tryd.prog 14 #[.agg (noteV x (.slice a1 x.blob.length c1)).toArray, .agg (noteV y (.slice a2 y.blob.length c2)).toArray] w (Said (sameN x y) w) := by
  have u_kind := h1.kind
  have v_kind := h2.kind
  have u_node := h1.node
  have v_node := h2.node
  have u_epoch := h1.epoch
  have v_epoch := h2.epoch
  have u_life := h1.life
  have v_life := h2.life
  have u_tick := h1.tick
  have v_tick := h2.tick
  have u_gen := h1.gen
  have v_gen := h2.gen
  have u_job := h1.job
  have v_job := h2.job
  have u_ver := h1.ver
  have v_ver := h2.ver
  have u_rank := h1.rank
  have v_rank := h2.rank
  have u_frm := h1.frm
  have v_frm := h2.frm
  have u_til := h1.til
  have v_til := h2.til
  clear h1 h2
  obtain ⟨kind1, node1, epoch1, life1, tick1, gen1, job1, ver1, rank1, credit1, frm1, til1, blob1⟩ := x
  obtain ⟨kind2, node2, epoch2, life2, tick2, gen2, job2, ver2, rank2, credit2, frm2, til2, blob2⟩ := y
  dsimp only at u_kind v_kind u_node v_node u_epoch v_epoch u_life v_life u_tick v_tick u_gen v_gen u_job v_job u_ver v_ver u_rank v_rank u_frm v_frm u_til v_til hb1 hb2
  have HB1 := hid hb1
  have HB2 := hid hb2
  clear hb1 hb2
  obtain ⟨l1, hl1⟩ : ∃ l, blob1.length = l := ⟨_, rfl⟩
  obtain ⟨l2, hl2⟩ : ∃ l, blob2.length = l := ⟨_, rfl⟩
  have hs : sameN ⟨kind1, node1, epoch1, life1, tick1, gen1, job1, ver1, rank1, credit1, frm1, til1, blob1⟩ ⟨kind2, node2, epoch2, life2, tick2, gen2, job2, ver2, rank2, credit2, frm2, til2, blob2⟩ = (kind1 == kind2 && node1 == node2 && epoch1 == epoch2 && life1 == life2 && tick1 == tick2 && gen1 == gen2 && job1 == job2 && ver1 == ver2 && rank1 == rank2 && credit1 == credit2 && frm1 == frm2 && til1 == til2 && blob1 == blob2) := rfl
  rw [hs]
  clear hs
  obtain ⟨res, hres⟩ : ∃ res, (kind1 == kind2 && node1 == node2 && epoch1 == epoch2 && life1 == life2 && tick1 == tick2 && gen1 == gen2 && job1 == job2 && ver1 == ver2 && rank1 == rank2 && credit1 == credit2 && frm1 == frm2 && til1 == til2 && blob1 == blob2) = res := ⟨_, rfl⟩
  rw [hres]
  have Hres := hid hres
  clear hres
  simp only [noteV]
  rw [hl1, hl2]
  have HL1 := hid hl1
  have HL2 := hid hl2
  clear hl1 hl2
  by_cases e0 : kind1 = kind2
  case' neg =>
    have E0 : ((kind1 : Int) == (kind2 : Int)) = false := by simp; omega
    have Fin := hid (show (kind1 == kind2 && node1 == node2 && epoch1 == epoch2 && life1 == life2 && tick1 == tick2 && gen1 == gen2 && job1 == job2 && ver1 == ver2 && rank1 == rank2 && credit1 == credit2 && frm1 == frm2 && til1 == til2 && blob1 == blob2) = false from by simp [e0])
    clear e0
    go_enter Tryd.func14, Tryd.ntmps14
    repeat (first | (refine wpList_skip' (rest := ⟨some 10, _, _, _, _, _⟩ :: _) (by kernel_rfl) ?_) | go_step)
    rw [← Hres.out, Fin.out]
    refine bodyPost_ret (v := .bool false) ?_ ?_ ?_
    · kernel_rfl
    · kernel_rfl
    · exact ⟨rfl, (below_alloc w _).trans ((below_alloc _ _).mono (by simp))⟩
  subst e0
  by_cases e1 : node1 = node2
  case' neg =>
    have E1 : ((node1 : Int) == (node2 : Int)) = false := by simp; omega
    have Fin := hid (show (kind1 == kind1 && node1 == node2 && epoch1 == epoch2 && life1 == life2 && tick1 == tick2 && gen1 == gen2 && job1 == job2 && ver1 == ver2 && rank1 == rank2 && credit1 == credit2 && frm1 == frm2 && til1 == til2 && blob1 == blob2) = false from by simp [e1])
    clear e1
    go_enter Tryd.func14, Tryd.ntmps14
    repeat (first | (refine wpList_skip' (rest := ⟨some 16, _, _, _, _, _⟩ :: _) (by kernel_rfl) ?_) | go_step)
    rw [← Hres.out, Fin.out]
    refine bodyPost_ret (v := .bool false) ?_ ?_ ?_
    · kernel_rfl
    · kernel_rfl
    · exact ⟨rfl, (below_alloc w _).trans ((below_alloc _ _).mono (by simp))⟩
  subst e1
  by_cases e2 : epoch1 = epoch2
  case' neg =>
    have E2 : ((epoch1 : Int) == (epoch2 : Int)) = false := by simp; omega
    have Fin := hid (show (kind1 == kind1 && node1 == node1 && epoch1 == epoch2 && life1 == life2 && tick1 == tick2 && gen1 == gen2 && job1 == job2 && ver1 == ver2 && rank1 == rank2 && credit1 == credit2 && frm1 == frm2 && til1 == til2 && blob1 == blob2) = false from by simp [e2])
    clear e2
    go_enter Tryd.func14, Tryd.ntmps14
    repeat (first | (refine wpList_skip' (rest := ⟨some 23, _, _, _, _, _⟩ :: _) (by kernel_rfl) ?_) | go_step)
    rw [← Hres.out, Fin.out]
    refine bodyPost_ret (v := .bool false) ?_ ?_ ?_
    · kernel_rfl
    · kernel_rfl
    · exact ⟨rfl, (below_alloc w _).trans ((below_alloc _ _).mono (by simp))⟩
  subst e2
  by_cases e3 : life1 = life2
  case' neg =>
    have E3 : ((life1 : Int) == (life2 : Int)) = false := by simp; omega
    have Fin := hid (show (kind1 == kind1 && node1 == node1 && epoch1 == epoch1 && life1 == life2 && tick1 == tick2 && gen1 == gen2 && job1 == job2 && ver1 == ver2 && rank1 == rank2 && credit1 == credit2 && frm1 == frm2 && til1 == til2 && blob1 == blob2) = false from by simp [e3])
    clear e3
    go_enter Tryd.func14, Tryd.ntmps14
    repeat (first | (refine wpList_skip' (rest := ⟨some 30, _, _, _, _, _⟩ :: _) (by kernel_rfl) ?_) | go_step)
    rw [← Hres.out, Fin.out]
    refine bodyPost_ret (v := .bool false) ?_ ?_ ?_
    · kernel_rfl
    · kernel_rfl
    · exact ⟨rfl, (below_alloc w _).trans ((below_alloc _ _).mono (by simp))⟩
  subst e3
  by_cases e4 : tick1 = tick2
  case' neg =>
    have E4 : ((tick1 : Int) == (tick2 : Int)) = false := by simp; omega
    have Fin := hid (show (kind1 == kind1 && node1 == node1 && epoch1 == epoch1 && life1 == life1 && tick1 == tick2 && gen1 == gen2 && job1 == job2 && ver1 == ver2 && rank1 == rank2 && credit1 == credit2 && frm1 == frm2 && til1 == til2 && blob1 == blob2) = false from by simp [e4])
    clear e4
    go_enter Tryd.func14, Tryd.ntmps14
    repeat (first | (refine wpList_skip' (rest := ⟨some 37, _, _, _, _, _⟩ :: _) (by kernel_rfl) ?_) | go_step)
    rw [← Hres.out, Fin.out]
    refine bodyPost_ret (v := .bool false) ?_ ?_ ?_
    · kernel_rfl
    · kernel_rfl
    · exact ⟨rfl, (below_alloc w _).trans ((below_alloc _ _).mono (by simp))⟩
  subst e4
  by_cases e5 : gen1 = gen2
  case' neg =>
    have E5 : ((gen1 : Int) == (gen2 : Int)) = false := by simp; omega
    have Fin := hid (show (kind1 == kind1 && node1 == node1 && epoch1 == epoch1 && life1 == life1 && tick1 == tick1 && gen1 == gen2 && job1 == job2 && ver1 == ver2 && rank1 == rank2 && credit1 == credit2 && frm1 == frm2 && til1 == til2 && blob1 == blob2) = false from by simp [e5])
    clear e5
    go_enter Tryd.func14, Tryd.ntmps14
    repeat (first | (refine wpList_skip' (rest := ⟨some 44, _, _, _, _, _⟩ :: _) (by kernel_rfl) ?_) | go_step)
    rw [← Hres.out, Fin.out]
    refine bodyPost_ret (v := .bool false) ?_ ?_ ?_
    · kernel_rfl
    · kernel_rfl
    · exact ⟨rfl, (below_alloc w _).trans ((below_alloc _ _).mono (by simp))⟩
  subst e5
  by_cases e6 : job1 = job2
  case' neg =>
    have E6 : ((job1 : Int) == (job2 : Int)) = false := by simp; omega
    have Fin := hid (show (kind1 == kind1 && node1 == node1 && epoch1 == epoch1 && life1 == life1 && tick1 == tick1 && gen1 == gen1 && job1 == job2 && ver1 == ver2 && rank1 == rank2 && credit1 == credit2 && frm1 == frm2 && til1 == til2 && blob1 == blob2) = false from by simp [e6])
    clear e6
    go_enter Tryd.func14, Tryd.ntmps14
    repeat (first | (refine wpList_skip' (rest := ⟨some 51, _, _, _, _, _⟩ :: _) (by kernel_rfl) ?_) | go_step)
    rw [← Hres.out, Fin.out]
    refine bodyPost_ret (v := .bool false) ?_ ?_ ?_
    · kernel_rfl
    · kernel_rfl
    · exact ⟨rfl, (below_alloc w _).trans ((below_alloc _ _).mono (by simp))⟩
  subst e6
  by_cases e7 : ver1 = ver2
  case' neg =>
    have E7 : ((ver1 : Int) == (ver2 : Int)) = false := by simp; omega
    have Fin := hid (show (kind1 == kind1 && node1 == node1 && epoch1 == epoch1 && life1 == life1 && tick1 == tick1 && gen1 == gen1 && job1 == job1 && ver1 == ver2 && rank1 == rank2 && credit1 == credit2 && frm1 == frm2 && til1 == til2 && blob1 == blob2) = false from by simp [e7])
    clear e7
    go_enter Tryd.func14, Tryd.ntmps14
    repeat (first | (refine wpList_skip' (rest := ⟨some 58, _, _, _, _, _⟩ :: _) (by kernel_rfl) ?_) | go_step)
    rw [← Hres.out, Fin.out]
    refine bodyPost_ret (v := .bool false) ?_ ?_ ?_
    · kernel_rfl
    · kernel_rfl
    · exact ⟨rfl, (below_alloc w _).trans ((below_alloc _ _).mono (by simp))⟩
  subst e7
  by_cases e8 : rank1 = rank2
  case' neg =>
    have E8 : ((rank1 : Int) == (rank2 : Int)) = false := by simp; omega
    have Fin := hid (show (kind1 == kind1 && node1 == node1 && epoch1 == epoch1 && life1 == life1 && tick1 == tick1 && gen1 == gen1 && job1 == job1 && ver1 == ver1 && rank1 == rank2 && credit1 == credit2 && frm1 == frm2 && til1 == til2 && blob1 == blob2) = false from by simp [e8])
    clear e8
    go_enter Tryd.func14, Tryd.ntmps14
    repeat (first | (refine wpList_skip' (rest := ⟨some 65, _, _, _, _, _⟩ :: _) (by kernel_rfl) ?_) | go_step)
    rw [← Hres.out, Fin.out]
    refine bodyPost_ret (v := .bool false) ?_ ?_ ?_
    · kernel_rfl
    · kernel_rfl
    · exact ⟨rfl, (below_alloc w _).trans ((below_alloc _ _).mono (by simp))⟩
  subst e8
  by_cases e9 : credit1 = credit2
  case' neg =>
    have E9 : (credit1 == credit2) = false := by simpa using e9
    have Fin := hid (show (kind1 == kind1 && node1 == node1 && epoch1 == epoch1 && life1 == life1 && tick1 == tick1 && gen1 == gen1 && job1 == job1 && ver1 == ver1 && rank1 == rank1 && credit1 == credit2 && frm1 == frm2 && til1 == til2 && blob1 == blob2) = false from by simp [e9])
    clear e9
    go_enter Tryd.func14, Tryd.ntmps14
    repeat (first | (refine wpList_skip' (rest := ⟨some 72, _, _, _, _, _⟩ :: _) (by kernel_rfl) ?_) | go_step)
    rw [← Hres.out, Fin.out]
    refine bodyPost_ret (v := .bool false) ?_ ?_ ?_
    · kernel_rfl
    · kernel_rfl
    · exact ⟨rfl, (below_alloc w _).trans ((below_alloc _ _).mono (by simp))⟩
  subst e9
  by_cases e10 : frm1 = frm2
  case' neg =>
    have E10 : ((frm1 : Int) == (frm2 : Int)) = false := by simp; omega
    have Fin := hid (show (kind1 == kind1 && node1 == node1 && epoch1 == epoch1 && life1 == life1 && tick1 == tick1 && gen1 == gen1 && job1 == job1 && ver1 == ver1 && rank1 == rank1 && credit1 == credit1 && frm1 == frm2 && til1 == til2 && blob1 == blob2) = false from by simp [e10])
    clear e10
    go_enter Tryd.func14, Tryd.ntmps14
    repeat (first | (refine wpList_skip' (rest := ⟨some 79, _, _, _, _, _⟩ :: _) (by kernel_rfl) ?_) | go_step)
    rw [← Hres.out, Fin.out]
    refine bodyPost_ret (v := .bool false) ?_ ?_ ?_
    · kernel_rfl
    · kernel_rfl
    · exact ⟨rfl, (below_alloc w _).trans ((below_alloc _ _).mono (by simp))⟩
  subst e10
  by_cases e11 : til1 = til2
  case' neg =>
    have E11 : ((til1 : Int) == (til2 : Int)) = false := by simp; omega
    have Fin := hid (show (kind1 == kind1 && node1 == node1 && epoch1 == epoch1 && life1 == life1 && tick1 == tick1 && gen1 == gen1 && job1 == job1 && ver1 == ver1 && rank1 == rank1 && credit1 == credit1 && frm1 == frm1 && til1 == til2 && blob1 == blob2) = false from by simp [e11])
    clear e11
    go_enter Tryd.func14, Tryd.ntmps14
    repeat (first | (refine wpList_skip' (rest := ⟨some 86, _, _, _, _, _⟩ :: _) (by kernel_rfl) ?_) | go_step)
    rw [← Hres.out, Fin.out]
    refine bodyPost_ret (v := .bool false) ?_ ?_ ?_
    · kernel_rfl
    · kernel_rfl
    · exact ⟨rfl, (below_alloc w _).trans ((below_alloc _ _).mono (by simp))⟩
  subst e11
  have Fin := hid (show (kind1 == kind1 && node1 == node1 && epoch1 == epoch1 && life1 == life1 && tick1 == tick1 && gen1 == gen1 && job1 == job1 && ver1 == ver1 && rank1 == rank1 && credit1 == credit1 && frm1 == frm1 && til1 == til1 && blob1 == blob2) = (blob1 == blob2) from by simp)
  go_enter Tryd.func14, Tryd.ntmps14
  go_wp2_with fail
  refine (same_n a1 a2 l1 l2 c1 c2 blob1 blob2 _ (HB1.out.below ((below_alloc w _).trans ((below_alloc _ _).mono (by simp)))) (HB2.out.below ((below_alloc w _).trans ((below_alloc _ _).mono (by simp)))) HL1.out HL2.out).mono ?_
  rintro e w' ⟨rfl, rfl⟩
  rw [← Fin.out, Hres.out]
  go_wp2_with fail
  go_ret
  exact ⟨rfl, (below_alloc w _).trans ((below_alloc _ _).mono (by simp))⟩

def sameP (a b : PakD) : Bool := a.node == b.node && a.epoch == b.epoch && a.life == b.life && a.seq == b.seq && a.ack == b.ack && a.plain == b.plain && a.data == b.data

theorem sameP_eq (a b : PakD) : sameP a b = true ↔ a = b := by
  obtain ⟨node1, epoch1, life1, seq1, ack1, plain1, data1⟩ := a
  obtain ⟨node2, epoch2, life2, seq2, ack2, plain2, data2⟩ := b
  simp only [sameP, Bool.and_eq_true, beq_iff_eq, PakD.mk.injEq, and_assoc]

set_option maxRecDepth 100000 in
set_option maxHeartbeats 8000000 in
theorem sameP_calls (x y : PakD) (a1 a2 : Option Addr) (c1 c2 : Nat) (w : World) (h1 : x.Ok) (h2 : y.Ok) (hb1 : BS w a1 c1 x.data) (hb2 : BS w a2 c2 y.data) :
    Calls Tryd.prog 15 #[.agg (pakV x (.slice a1 x.data.length c1)).toArray, .agg (pakV y (.slice a2 y.data.length c2)).toArray] w (Said (sameP x y) w) := by
  have u_node := h1.node
  have v_node := h2.node
  have u_epoch := h1.epoch
  have v_epoch := h2.epoch
  have u_life := h1.life
  have v_life := h2.life
  have u_seq := h1.seq
  have v_seq := h2.seq
  have u_ack := h1.ack
  have v_ack := h2.ack
  clear h1 h2
  obtain ⟨node1, epoch1, life1, seq1, ack1, plain1, data1⟩ := x
  obtain ⟨node2, epoch2, life2, seq2, ack2, plain2, data2⟩ := y
  dsimp only at u_node v_node u_epoch v_epoch u_life v_life u_seq v_seq u_ack v_ack hb1 hb2
  have HB1 := hid hb1
  have HB2 := hid hb2
  clear hb1 hb2
  obtain ⟨l1, hl1⟩ : ∃ l, data1.length = l := ⟨_, rfl⟩
  obtain ⟨l2, hl2⟩ : ∃ l, data2.length = l := ⟨_, rfl⟩
  have hs : sameP ⟨node1, epoch1, life1, seq1, ack1, plain1, data1⟩ ⟨node2, epoch2, life2, seq2, ack2, plain2, data2⟩ = (node1 == node2 && epoch1 == epoch2 && life1 == life2 && seq1 == seq2 && ack1 == ack2 && plain1 == plain2 && data1 == data2) := rfl
  rw [hs]
  clear hs
  obtain ⟨res, hres⟩ : ∃ res, (node1 == node2 && epoch1 == epoch2 && life1 == life2 && seq1 == seq2 && ack1 == ack2 && plain1 == plain2 && data1 == data2) = res := ⟨_, rfl⟩
  rw [hres]
  have Hres := hid hres
  clear hres
  simp only [pakV]
  rw [hl1, hl2]
  have HL1 := hid hl1
  have HL2 := hid hl2
  clear hl1 hl2
  by_cases e0 : node1 = node2
  case' neg =>
    have E0 : ((node1 : Int) == (node2 : Int)) = false := by simp; omega
    have Fin := hid (show (node1 == node2 && epoch1 == epoch2 && life1 == life2 && seq1 == seq2 && ack1 == ack2 && plain1 == plain2 && data1 == data2) = false from by simp [e0])
    clear e0
    go_enter Tryd.func15, Tryd.ntmps15
    repeat (first | (refine wpList_skip' (rest := ⟨some 10, _, _, _, _, _⟩ :: _) (by kernel_rfl) ?_) | go_step)
    rw [← Hres.out, Fin.out]
    refine bodyPost_ret (v := .bool false) ?_ ?_ ?_
    · kernel_rfl
    · kernel_rfl
    · exact ⟨rfl, (below_alloc w _).trans ((below_alloc _ _).mono (by simp))⟩
  subst e0
  by_cases e1 : epoch1 = epoch2
  case' neg =>
    have E1 : ((epoch1 : Int) == (epoch2 : Int)) = false := by simp; omega
    have Fin := hid (show (node1 == node1 && epoch1 == epoch2 && life1 == life2 && seq1 == seq2 && ack1 == ack2 && plain1 == plain2 && data1 == data2) = false from by simp [e1])
    clear e1
    go_enter Tryd.func15, Tryd.ntmps15
    repeat (first | (refine wpList_skip' (rest := ⟨some 16, _, _, _, _, _⟩ :: _) (by kernel_rfl) ?_) | go_step)
    rw [← Hres.out, Fin.out]
    refine bodyPost_ret (v := .bool false) ?_ ?_ ?_
    · kernel_rfl
    · kernel_rfl
    · exact ⟨rfl, (below_alloc w _).trans ((below_alloc _ _).mono (by simp))⟩
  subst e1
  by_cases e2 : life1 = life2
  case' neg =>
    have E2 : ((life1 : Int) == (life2 : Int)) = false := by simp; omega
    have Fin := hid (show (node1 == node1 && epoch1 == epoch1 && life1 == life2 && seq1 == seq2 && ack1 == ack2 && plain1 == plain2 && data1 == data2) = false from by simp [e2])
    clear e2
    go_enter Tryd.func15, Tryd.ntmps15
    repeat (first | (refine wpList_skip' (rest := ⟨some 23, _, _, _, _, _⟩ :: _) (by kernel_rfl) ?_) | go_step)
    rw [← Hres.out, Fin.out]
    refine bodyPost_ret (v := .bool false) ?_ ?_ ?_
    · kernel_rfl
    · kernel_rfl
    · exact ⟨rfl, (below_alloc w _).trans ((below_alloc _ _).mono (by simp))⟩
  subst e2
  by_cases e3 : seq1 = seq2
  case' neg =>
    have E3 : ((seq1 : Int) == (seq2 : Int)) = false := by simp; omega
    have Fin := hid (show (node1 == node1 && epoch1 == epoch1 && life1 == life1 && seq1 == seq2 && ack1 == ack2 && plain1 == plain2 && data1 == data2) = false from by simp [e3])
    clear e3
    go_enter Tryd.func15, Tryd.ntmps15
    repeat (first | (refine wpList_skip' (rest := ⟨some 30, _, _, _, _, _⟩ :: _) (by kernel_rfl) ?_) | go_step)
    rw [← Hres.out, Fin.out]
    refine bodyPost_ret (v := .bool false) ?_ ?_ ?_
    · kernel_rfl
    · kernel_rfl
    · exact ⟨rfl, (below_alloc w _).trans ((below_alloc _ _).mono (by simp))⟩
  subst e3
  by_cases e4 : ack1 = ack2
  case' neg =>
    have E4 : ((ack1 : Int) == (ack2 : Int)) = false := by simp; omega
    have Fin := hid (show (node1 == node1 && epoch1 == epoch1 && life1 == life1 && seq1 == seq1 && ack1 == ack2 && plain1 == plain2 && data1 == data2) = false from by simp [e4])
    clear e4
    go_enter Tryd.func15, Tryd.ntmps15
    repeat (first | (refine wpList_skip' (rest := ⟨some 37, _, _, _, _, _⟩ :: _) (by kernel_rfl) ?_) | go_step)
    rw [← Hres.out, Fin.out]
    refine bodyPost_ret (v := .bool false) ?_ ?_ ?_
    · kernel_rfl
    · kernel_rfl
    · exact ⟨rfl, (below_alloc w _).trans ((below_alloc _ _).mono (by simp))⟩
  subst e4
  by_cases e5 : plain1 = plain2
  case' neg =>
    have E5 : (plain1 == plain2) = false := by simpa using e5
    have Fin := hid (show (node1 == node1 && epoch1 == epoch1 && life1 == life1 && seq1 == seq1 && ack1 == ack1 && plain1 == plain2 && data1 == data2) = false from by simp [e5])
    clear e5
    go_enter Tryd.func15, Tryd.ntmps15
    repeat (first | (refine wpList_skip' (rest := ⟨some 44, _, _, _, _, _⟩ :: _) (by kernel_rfl) ?_) | go_step)
    rw [← Hres.out, Fin.out]
    refine bodyPost_ret (v := .bool false) ?_ ?_ ?_
    · kernel_rfl
    · kernel_rfl
    · exact ⟨rfl, (below_alloc w _).trans ((below_alloc _ _).mono (by simp))⟩
  subst e5
  have Fin := hid (show (node1 == node1 && epoch1 == epoch1 && life1 == life1 && seq1 == seq1 && ack1 == ack1 && plain1 == plain1 && data1 == data2) = (data1 == data2) from by simp)
  go_enter Tryd.func15, Tryd.ntmps15
  go_wp2_with fail
  refine (same_n a1 a2 l1 l2 c1 c2 data1 data2 _ (HB1.out.below ((below_alloc w _).trans ((below_alloc _ _).mono (by simp)))) (HB2.out.below ((below_alloc w _).trans ((below_alloc _ _).mono (by simp)))) HL1.out HL2.out).mono ?_
  rintro e w' ⟨rfl, rfl⟩
  rw [← Fin.out, Hres.out]
  go_wp2_with fail
  go_ret
  exact ⟨rfl, (below_alloc w _).trans ((below_alloc _ _).mono (by simp))⟩
end Go.Proofs.YtmmcmldcbdaooaaDoor
