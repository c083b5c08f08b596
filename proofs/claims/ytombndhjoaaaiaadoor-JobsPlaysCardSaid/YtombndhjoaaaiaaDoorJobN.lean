/- The walks of layer 16: a table's bytes; asked: that the table is whole. -/
import Derived.Test.YtombndhjoaaaiaaDoorJobM
namespace Go.Proofs.YtombndhjoaaaiaaDoor
open Go.RowKit Go.Quad _root_.Quad _root_.Quad.Ink

def jobB (j : JobD) : List UInt8 := numL j.id ++ numL j.tier ++ numL j.k.toNat ++ numL j.w.toNat ++ numL (if j.state = 4 then 1 else 0) ++ numL (if 4 ≤ j.state then j.credit.toNat else 0)
def jobsB (l : List JobD) : List UInt8 := numL l.length ++ l.flatMap jobB
def repB (r : RepD) : List UInt8 := numL r.seq ++ numL r.job
def bytesT (t : TbD) : List UInt8 := numL t.spent ++ jobsB t.active ++ jobsB t.over ++ t.last.flatMap repB
/-- a pen in use: what it has written since w0 -/
def PT (w0 W : World) (B g : Nat) (s0 : Value) (l : List UInt8) (G : List Nat) : Prop :=
  ∃ s, IsPen W B g s l false ∧ Chg (penS g s0) w0 W ∧ (∀ k, s.ownBlock = some k → s0.ownBlock = some k ∨ w0.heap.size ≤ k) ∧ ∀ k ∈ G, k < W.heap.size ∧ k ∉ penS g s
theorem PT.start {w : World} {B g : Nat} {s : Value} {l : List UInt8} (h : IsPen w B g s l false) : PT w w B g s l [] := ⟨s, h, Chg.refl _ _, fun k hk => .inl hk, by simp⟩
theorem pen_lt {w : World} {B g : Nat} {s : Value} {l : List UInt8} {bad : Bool} (h : IsPen w B g s l bad) {k : Nat} (hk : k ∈ penS g s) : k < w.heap.size := by
  rcases List.mem_cons.1 hk with rfl | hk
  · exact h.own.lt
  · exact (World.ownsRow.lt h.row k (by simpa using hk)).2
theorem PT.below {w0 W W' : World} {B g : Nat} {s0 : Value} {l : List UInt8} {G : List Nat} (h : PT w0 W B g s0 l G) (hb : Below W.heap.size W W') : PT w0 W' B g s0 l G := by
  obtain ⟨s, h1, h2, h3, h4⟩ := h
  exact ⟨s, h1.below hb, h2.trans (Chg.of_below _ hb), h3, fun k hk => ⟨Nat.lt_of_lt_of_le (h4 k hk).1 hb.size, (h4 k hk).2⟩⟩
theorem PT.mk1 {w0 W : World} {B g : Nat} {s0 : Value} {l : List UInt8} {G : List Nat} (h : PT w0 W B g s0 l G) (o : Obj) : PT w0 (W.alloc o) B g s0 l (W.heap.size :: G) := by
  obtain ⟨s, h1, h2, h3, h4⟩ := h.below (below_alloc W o)
  obtain ⟨s', k1, _⟩ := h
  refine ⟨s, h1, h2, h3, fun k hk => ?_⟩
  rcases List.mem_cons.1 hk with rfl | hk
  · refine ⟨by simp, fun hm => ?_⟩
    have e : s' = s := by
      have a := k1.own.below (below_alloc W o)
      have b := h1.own
      unfold Blk at a b
      rw [a] at b
      simpa using b
    subst e
    have := pen_lt k1 hm
    omega
  · exact h4 k hk
def PTo (w0 W : World) (B g : Nat) (s0 : Value) (l : List UInt8) (G : List Nat) (e : Ending) (W' : World) : Prop :=
  e = .returned (.tuple #[]) ∧ PT w0 W' B g s0 l G ∧ ∀ k ∈ G, W'.heap[k]? = W.heap[k]?
theorem PT.op {w0 W : World} {B g : Nat} {s0 : Value} {l l' : List UInt8} {G : List Nat} {f : Nat} {args : Array Value} (h : PT w0 W B g s0 l G) (hc : ∀ s, IsPen W B g s l false → Calls Tryd.prog f args W (PenTo W B g s l' false)) :
    Calls Tryd.prog f args W (PTo w0 W B g s0 l' G) := by
  obtain ⟨s, h1, h2, h3, h4⟩ := h
  refine (hc s h1).mono ?_
  rintro e W' ⟨rfl, s', k1, k2, k3⟩
  refine ⟨rfl, ⟨s', k1, ?_, fun k hk => ?_, fun k hk => ⟨Nat.lt_of_lt_of_le (h4 k hk).1 k2.size, fun hm => ?_⟩⟩, fun k hk => k2.block k (h4 k hk).1 (h4 k hk).2⟩
  · refine ⟨k2.os.trans h2.os, k2.tape.trans h2.tape, k2.output.trans h2.output, Nat.le_trans h2.size k2.size, fun i hi hs => ?_⟩
    refine (k2.block i (Nat.lt_of_lt_of_le hi h2.size) fun hm => ?_).trans (h2.block i hi hs)
    rcases List.mem_cons.1 hm with rfl | hm
    · exact hs (by simp [penS])
    · rcases h3 i (by simpa using hm) with e | e
      · exact hs (by simp [penS, e])
      · omega
  · rcases k3 k hk with e | e
    · exact h3 k e
    · exact .inr (Nat.le_trans h2.size e)
  · rcases List.mem_cons.1 hm with rfl | hm
    · exact (h4 _ hk).2 (by simp [penS])
    · rcases k3 k (by simpa using hm) with e | e
      · exact (h4 k hk).2 (by simp [penS, e])
      · have := (h4 k hk).1; omega
theorem PT.num {w0 W : World} {B g : Nat} {s0 : Value} {l : List UInt8} {G : List Nat} (h : PT w0 W B g s0 l G) (n : Nat) (hn : n < 4294967296) (hl : l.length ≤ 1000000) :
    Calls Tryd.prog 48 #[.pointer (some ⟨g, 0, none⟩), .int .u64 (n : Int)] W (PTo w0 W B g s0 (l ++ numL n) G) := h.op fun s hs => pnum_any n (by omega) W B g s l false hs hl
theorem PT.int {w0 W : World} {B g : Nat} {s0 : Value} {l : List UInt8} {G : List Nat} (h : PT w0 W B g s0 l G) (n : Int) (hn : 0 ≤ n ∧ n ≤ 1000000) (hl : l.length ≤ 1000000) :
    Calls Tryd.prog 61 #[.pointer (some ⟨g, 0, none⟩), .int .i64 n] W (PTo w0 W B g s0 (l ++ numL n.toNat) G) := h.op fun s hs => by
  have := pint_any n (by omega) W B g s l false hs hl
  rw [show intN n false l = l ++ numL n.toNat from by unfold intN; rw [if_neg (by omega)]; rfl, show decide (n < 0) = false from decide_eq_false (by omega), Bool.or_false] at this
  exact this
theorem PT.bool {w0 W : World} {B g : Nat} {s0 : Value} {l : List UInt8} {G : List Nat} (h : PT w0 W B g s0 l G) (b : Bool) (hl : l.length ≤ 1000000) :
    Calls Tryd.prog 68 #[.pointer (some ⟨g, 0, none⟩), .bool b] W (PTo w0 W B g s0 (l ++ numL (if b then 1 else 0)) G) := h.op fun s hs => pbool_any b W B g s l false hs hl
theorem PT.mono {w0 W : World} {B g : Nat} {s0 : Value} {l : List UInt8} {G G' : List Nat} (h : PT w0 W B g s0 l G) (hG : ∀ k ∈ G', k ∈ G) : PT w0 W B g s0 l G' := by
  obtain ⟨s, h1, h2, h3, h4⟩ := h
  exact ⟨s, h1, h2, h3, fun k hk => h4 k (hG k hk)⟩
theorem PT.to {w0 W : World} {B g : Nat} {s0 : Value} {l : List UInt8} {G : List Nat} (h : PT w0 W B g s0 l G) : PenTo w0 B g s0 l false (.returned (.tuple #[])) W := by
  obtain ⟨s, h1, h2, h3, _⟩ := h
  exact ⟨rfl, s, h1, h2, h3⟩
theorem jobB_len (j : JobD) (hj : j.id < 4294967296 ∧ j.tier < 256 ∧ 1 ≤ j.k ∧ j.k ≤ 16 ∧ 1 ≤ j.w ∧ j.w ≤ 10000 ∧ 0 ≤ j.credit ∧ j.credit ≤ j.w) : (jobB j).length ≤ 60 := by
  unfold jobB
  have h1 := numL_len10 (n := j.id) (by omega)
  have h2 := numL_len10 (n := j.tier) (by omega)
  have h3 := numL_len10 (n := j.k.toNat) (by omega)
  have h4 := numL_len10 (n := j.w.toNat) (by omega)
  have h5 := numL_len10 (n := if j.state = 4 then 1 else 0) (by split <;> omega)
  have h6 := numL_len10 (n := if 4 ≤ j.state then j.credit.toNat else 0) (by split <;> omega)
  simp only [List.length_append]
  omega
def JobIn (j : JobD) : Prop := j.id < 4294967296 ∧ j.tier < 256 ∧ 1 ≤ j.k ∧ j.k ≤ 16 ∧ 1 ≤ j.w ∧ j.w ≤ 10000 ∧ 0 ≤ j.credit ∧ j.credit ≤ j.w
theorem jobs_len (l : List JobD) (h : ∀ j ∈ l, JobIn j) : (l.flatMap jobB).length ≤ 60 * l.length := by
  induction l with
  | nil => simp
  | cons x l ih =>
    rw [List.flatMap_cons, List.length_append, List.length_cons]
    have := jobB_len x (h x (List.mem_cons_self ..))
    have := ih fun j hj => h j (List.mem_cons_of_mem _ hj)
    omega
def PjRel (w : World) (B g : Nat) (s : Value) (l : List UInt8) (lj : List JobD) (iv : Value) (wr : World) : Prop := ∃ k : Nat, iv = .int .i64 (k : Int) ∧ k ≤ lj.length ∧ PT w wr B g s (l ++ numL lj.length ++ (lj.take k).flatMap jobB) []

set_option maxRecDepth 100000 in
set_option maxHeartbeats 20000000 in
theorem pjobs_calls (w : World) (B g : Nat) (s : Value) (l : List UInt8) (lj : List JobD) (a : Option Addr) (cap : Nat) (h : IsPen w B g s l false) (hc : CS w a cap 6 (lj.flatMap jobV)) (hoff : ∀ x, a = some x → x.block ∉ penS g s) (hj : ∀ j ∈ lj, JobIn j) (hst : ∀ j ∈ lj, j.state < 256) (hn : lj.length ≤ 64) (hl : l.length ≤ 20000) :
    Calls Tryd.prog 49 #[.pointer (some ⟨g, 0, none⟩), .slice a lj.length cap] w (PenTo w B g s (l ++ jobsB lj) false) := by
  have P0 := hid (PT.start h)
  have HC := hid hc
  have HO := hid hoff
  have HJ := hid hj
  have HS := hid hst
  have HN := hid hn
  have Hl := hid hl
  have n64 : (lj.length : Int) ≤ 64 := by omega
  have C0 := hid (P0.out.int (lj.length : Int) (by omega) (by omega))
  clear h hc hoff hj hst hn hl
  go_enter Tryd.func49, Tryd.ntmps49
  go_upto_region 1 with (go_at_call 61; go_loud (refine C0.out.mono ?_; rintro e w1 ⟨rfl, hp, _⟩; rw [Int.toNat_natCast] at hp; have P1 := hid hp; clear hp))
  clear C0 P0
  go_wp2_with fail
  go_loopw [13] (fun iv wr => PjRel w B g s l lj iv wr) (fun iv _ => lj.length - (intOf iv).toNat)
  case atStart => exact ⟨0, rfl, Nat.zero_le _, by rw [List.take_zero, List.flatMap_nil, List.append_nil]; exact P1.out⟩
  case round =>
    clear P1
    obtain ⟨k, rfl, hk, hp⟩ := hrel
    obtain ⟨L, hL⟩ : ∃ L, l ++ numL lj.length ++ (lj.take k).flatMap jobB = L := ⟨_, rfl⟩
    rw [hL] at hp
    have P := hid hp
    have HL := hid hL
    have hLl : L.length ≤ 24000 := by
      rw [← hL, List.length_append, List.length_append]
      have h1 := numL_len10 (n := lj.length) (by have := HN.out; omega)
      have h2 := jobs_len (lj.take k) fun j hj => HJ.out j (List.mem_of_mem_take hj)
      rw [List.length_take] at h2
      have := Hl.out; have := HN.out
      omega
    clear hp hL
    by_cases hkl : k < lj.length
    · have hkl' : (k : Int) < (lj.length : Int) := by omega
      have hcs : CS wr a cap 6 (lj.flatMap jobV) := by
        obtain ⟨_, _, h2, _⟩ := P.out
        exact HC.out.chg h2 HO.out
      obtain ⟨bj, offj, rfl, hc⟩ := cs_row jobV_length hcs hkl (by decide)
      obtain ⟨j, hj⟩ : ∃ j, lj[k] = j := ⟨_, rfl⟩
      have hjm : j ∈ lj := hj ▸ List.getElem_mem hkl
      rw [hj] at hc
      have HR := hid (show wr.rangeAt bj (offj + k * 6) (jobV j) from hc)
      have HT := hid (show lj.take (k + 1) = lj.take k ++ [j] from by rw [List.take_succ_eq_append_getElem hkl, hj])
      have HIn := hid (HJ.out j hjm)
      have hst := HS.out j hjm
      have HKL := hid hkl
      clear hc hcs hj hjm hkl
      go_upto_region 4 with (first | (refine wpList_load_row6 (o := ⟨some 16, _, _, _, _, _⟩) 37 (.tmp 15) rfl rfl bj (offj + k * 6) (jobV j) rfl HR.out row_job size_job ?_) | (refine wpListQ_alloc (o := ⟨some 5, _, _, _, _, _⟩) 37 rfl rfl zjob 6 info_job ?_) | (refine wpListQ_store_new (o := ⟨none, _, 0, _, _, _⟩) rfl 37 (.tmp 5) (.tmp 16) rfl zjob (jobV j).toArray rfl rfl size_job rfl (all_oneCell_toArray (jobV_one _)) ?_))
      obtain ⟨z, hz⟩ : ∃ z, wr.heap.size = z := ⟨_, rfl⟩
      have P1 := hid (show PT w (wr.alloc (.cells (jobV j).toArray 37)) B g s L [z] from by rw [← hz]; exact P.out.mk1 _)
      have K1 := hid (show Blk (wr.alloc (.cells (jobV j).toArray 37)) z (jobV j) 37 from by rw [← hz]; exact blk_alloc wr (jobV j) 37)
      rw [hz]
      generalize (wr.alloc (.cells (jobV j).toArray 37)) = x1 at P1 K1 ⊢
      clear hz HR P
      have e1 := numL_len10 (n := j.id) (by have := HIn.out.1; omega)
      have e2 := numL_len10 (n := j.tier) (by have := HIn.out.2.1; omega)
      have e3 := numL_len10 (n := j.k.toNat) (by obtain ⟨_, _, _, h, _⟩ := HIn.out; omega)
      have e4 := numL_len10 (n := j.w.toNat) (by obtain ⟨_, _, _, _, _, h, _⟩ := HIn.out; omega)
      have e5 := numL_len10 (n := if j.state = 4 then 1 else 0) (by split <;> omega)
      have E := hid (show (L ++ numL j.id).length ≤ 30000 ∧ (L ++ numL j.id ++ numL j.tier).length ≤ 30000 ∧ (L ++ numL j.id ++ numL j.tier ++ numL j.k.toNat).length ≤ 30000 ∧ (L ++ numL j.id ++ numL j.tier ++ numL j.k.toNat ++ numL j.w.toNat).length ≤ 30000 ∧ (L ++ numL j.id ++ numL j.tier ++ numL j.k.toNat ++ numL j.w.toNat ++ numL (if j.state = 4 then 1 else 0)).length ≤ 30000 from by simp only [List.length_append]; omega)
      have hid' : (j.id : Int) ≤ 4294967295 := by have := HIn.out.1; omega
      have htier : (j.tier : Int) ≤ 255 := by have := HIn.out.2.1; omega
      have hstI : (j.state : Int) ≤ 255 := by omega
      clear e1 e2 e3 e4 e5
      have c0 := K1.out.get 0 rfl
      have D1 := hid (P1.out.num j.id (by have := HIn.out.1; omega) (by omega))
      go_upto_region 5 with (go_at_call 48; go_loud (refine D1.out.mono ?_; rintro e x2 ⟨rfl, hp, hg⟩; have P2 := hid hp; have K2 := hid (blk_same K1.out (hg z (by simp))); clear hp hg))
      clear D1 P1 K1 c0
      have c1 := K2.out.get 1 rfl
      have D2 := hid (P2.out.num j.tier (by have := HIn.out.2.1; omega) (by have := E.out.1; omega))
      go_upto_region 6 with (go_at_call 48; go_loud (refine D2.out.mono ?_; rintro e x3 ⟨rfl, hp, hg⟩; have P3 := hid hp; have K3 := hid (blk_same K2.out (hg z (by simp))); clear hp hg))
      clear D2 P2 K2 c1
      have c2 := K3.out.get 2 rfl
      have D3 := hid (P3.out.int j.k (by obtain ⟨_, _, h1, h2, _⟩ := HIn.out; omega) (by have := E.out.2.1; omega))
      go_upto_region 7 with (go_at_call 61; go_loud (refine D3.out.mono ?_; rintro e x4 ⟨rfl, hp, hg⟩; have P4 := hid hp; have K4 := hid (blk_same K3.out (hg z (by simp))); clear hp hg))
      clear D3 P3 K3 c2
      have c3 := K4.out.get 3 rfl
      have D4 := hid (P4.out.int j.w (by obtain ⟨_, _, _, _, h1, h2, _⟩ := HIn.out; omega) (by have := E.out.2.2.1; omega))
      go_upto_region 8 with (go_at_call 61; go_loud (refine D4.out.mono ?_; rintro e x5 ⟨rfl, hp, hg⟩; have P5 := hid hp; have K5 := hid (blk_same K4.out (hg z (by simp))); clear hp hg))
      clear D4 P4 K4 c3
      have c4 := K5.out.get 4 rfl
      have c5 := K5.out.get 5 rfl
      by_cases h4 : j.state = 4
      · have h4' : (j.state : Int) = 4 := by omega
        have D5 := P5.out.bool true (by have := E.out.2.2.2.1; omega)
        have e6 : jobB j = numL j.id ++ numL j.tier ++ numL j.k.toNat ++ numL j.w.toNat ++ numL (if true then 1 else 0) ++ numL j.credit.toNat := by unfold jobB; rw [if_pos h4, if_pos (show 4 ≤ j.state by omega)]; rfl
        have E6 := hid e6
        have HD5 := hid D5
        have Hb5 := hid (show (L ++ numL j.id ++ numL j.tier ++ numL j.k.toNat ++ numL j.w.toNat ++ numL (if true then 1 else 0)).length ≤ 30000 from by have := E.out.2.2.2.2; rw [if_pos h4] at this; exact this)
        clear D5 e6 h4
        go_upto_region 9 with (go_at_call 68; go_loud (refine HD5.out.mono ?_; rintro e x6 ⟨rfl, hp, hg⟩; have P6 := hid hp; have K6 := hid (blk_same K5.out (hg z (by simp))); clear hp hg))
        clear HD5 P5 c4 c5 K5
        have c4 : x6.cell? ⟨z, 4, none⟩ = some (.int .u8 4) := by have := K6.out.get 4 (show (jobV j)[4]? = some (.int .u8 (j.state : Int)) from rfl); rw [h4'] at this; exact this
        have c5 := K6.out.get 5 rfl
        have D6 := hid (P6.out.int j.credit (by obtain ⟨_, _, _, _, _, h0, h1, h2⟩ := HIn.out; omega) (by have := Hb5.out; omega))
        go_wp2_with (go_at_call 61; go_loud (refine D6.out.mono ?_; rintro e x7 ⟨rfl, hp, hg⟩; have P7 := hid hp; clear hp hg))
        have hkl := HKL.out
        have R : PjRel w B g s l lj (.int .i64 ((k : Int) + 1)) x7 := ⟨k + 1, by simp, hkl, by
          rw [HT.out, List.flatMap_append, ← List.append_assoc, HL.out]
          have := P7.out.mono (G' := []) (by simp)
          rw [show [j].flatMap jobB = jobB j from by simp, E6.out]
          simpa only [List.append_assoc] using this⟩
        refine ⟨?_, ?_⟩
        · first | exact R | ((repeat apply Exists.intro); refine ⟨R, ?_⟩; and_intros <;> rfl)
        · simp [intOf]
          omega
      · have h4' : ¬ ((j.state : Int) = 4) := by omega
        have b4 : ((j.state : Int) == 4) = false := by simpa using h4'
        have D5 := P5.out.bool false (by have := E.out.2.2.2.1; omega)
        have HD5 := hid D5
        have Hb5 := hid (show (L ++ numL j.id ++ numL j.tier ++ numL j.k.toNat ++ numL j.w.toNat ++ numL (if false then 1 else 0)).length ≤ 30000 from by have := E.out.2.2.2.2; rw [if_neg h4] at this; exact this)
        have E6 := hid (show jobB j = numL j.id ++ numL j.tier ++ numL j.k.toNat ++ numL j.w.toNat ++ numL (if false then 1 else 0) ++ numL (if 4 ≤ j.state then j.credit.toNat else 0) from by unfold jobB; rw [if_neg h4]; rfl)
        clear D5
        go_upto_region 9 with (go_at_call 68; go_loud (refine HD5.out.mono ?_; rintro e x6 ⟨rfl, hp, hg⟩; have P6 := hid hp; have K6 := hid (blk_same K5.out (hg z (by simp))); clear hp hg))
        clear HD5 P5 c4 c5 K5
        have c4 := K6.out.get 4 rfl
        have c5 := K6.out.get 5 rfl
        by_cases h5 : 4 ≤ j.state
        · have h5' : (4 : Int) ≤ (j.state : Int) := by omega
          have E7 := hid (show jobB j = numL j.id ++ numL j.tier ++ numL j.k.toNat ++ numL j.w.toNat ++ numL (if false then 1 else 0) ++ numL j.credit.toNat from by rw [E6.out, if_pos h5])
          have D6 := hid (P6.out.int j.credit (by obtain ⟨_, _, _, _, _, h0, h1, h2⟩ := HIn.out; omega) (by have := Hb5.out; omega))
          clear h4 h5
          go_wp2_with (go_at_call 61; go_loud (refine D6.out.mono ?_; rintro e x7 ⟨rfl, hp, hg⟩; have P7 := hid hp; clear hp hg))
          have hkl := HKL.out
          have R : PjRel w B g s l lj (.int .i64 ((k : Int) + 1)) x7 := ⟨k + 1, by simp, hkl, by
            rw [HT.out, List.flatMap_append, ← List.append_assoc, HL.out]
            have := P7.out.mono (G' := []) (by simp)
            rw [show [j].flatMap jobB = jobB j from by simp, E7.out]
            simpa only [List.append_assoc] using this⟩
          refine ⟨?_, ?_⟩
          · first | exact R | ((repeat apply Exists.intro); refine ⟨R, ?_⟩; and_intros <;> rfl)
          · simp [intOf]
            omega
        · have h5' : ¬ ((4 : Int) ≤ (j.state : Int)) := by omega
          have E7 := hid (show jobB j = numL j.id ++ numL j.tier ++ numL j.k.toNat ++ numL j.w.toNat ++ numL (if false then 1 else 0) ++ numL (0 : Int).toNat from by rw [E6.out, if_neg h5]; rfl)
          have D6 := hid (P6.out.int 0 (by omega) (by have := Hb5.out; omega))
          clear h4 h5
          go_wp2_with (go_at_call 61; go_loud (refine D6.out.mono ?_; rintro e x7 ⟨rfl, hp, hg⟩; have P7 := hid hp; clear hp hg))
          have hkl := HKL.out
          have R : PjRel w B g s l lj (.int .i64 ((k : Int) + 1)) x7 := ⟨k + 1, by simp, hkl, by
            rw [HT.out, List.flatMap_append, ← List.append_assoc, HL.out]
            have := P7.out.mono (G' := []) (by simp)
            rw [show [j].flatMap jobB = jobB j from by simp, E7.out]
            simpa only [List.append_assoc] using this⟩
          refine ⟨?_, ?_⟩
          · first | exact R | ((repeat apply Exists.intro); refine ⟨R, ?_⟩; and_intros <;> rfl)
          · simp [intOf]
            omega
    · have hkl' : ¬ ((k : Int) < (lj.length : Int)) := by omega
      obtain rfl : k = lj.length := by omega
      clear hkl
      go_wp2_with fail
      go_end0
      have := P.out
      rw [← HL.out, List.take_length] at this
      have h2 := this.to
      rw [show l ++ numL lj.length ++ lj.flatMap jobB = l ++ jobsB lj from by unfold jobsB; rw [List.append_assoc]] at h2
      exact h2

end Go.Proofs.YtombndhjoaaaiaaDoor
