/- The walks of layer 2: what stands in front of bytes. -/
import Derived.Test.YtmmcmldcbdaooaaDoorKnotA
import Derived.Test.YtmmcmldcbdaooaaDoorDraws
import Derived.Deep.QuietTactic
import Derived.BigQuiet
import Derived.Deep.RegionWith
namespace Go.Proofs.YtmmcmldcbdaooaaDoor
open Go.RowKit Go.Quad _root_.Quad

def lenL (p : List UInt8) : Nat := (p.getD 0 0).toNat + 256 * (p.getD 1 0).toNat
def nextL (p : List UInt8) : List UInt8 × List UInt8 × Int :=
  if p.length < 2 then ([], [], 2)
  else if 2048 < lenL p then ([], [], 3)
  else if p.length < lenL p + 6 then ([], [], 2)
  else if (p.drop (lenL p + 2)).take 4 == tailL (crc (p.take (lenL p + 2))) then ((p.drop 2).take (lenL p), p.drop (lenL p + 6), 0)
  else ([], [], 5)

def RetBBE (B : Nat) (w : World) (r : List UInt8 × List UInt8 × Int) (e : Ending) (w' : World) : Prop :=
  ∃ v1 v2, e = .returned (.tuple #[v1, v2, .int .i64 r.2.2]) ∧ OB w' B 5 v1 r.1 ∧ OB w' B 5 v2 r.2.1 ∧ Below B w w'

theorem retNil (w : World) (k : Int) {n : Nat} : RetBBE w.heap.size w ([], [], k) (.returned (.tuple #[.slice none 0 0, .slice none 0 0, .int .i64 k])) (w.drewN n) :=
  ⟨_, _, rfl, World.ownsRow_nil _ _ _ _, World.ownsRow_nil _ _ _ _, below_drewN (Below.refl _ _) n⟩

theorem or_len (x y : Nat) (hx : (x : Int) ≤ 255) (hy : (y : Int) ≤ 255) : bits .or .i64 (x : Int) ((y : Int) * 256) = ((x + 256 * y : Nat) : Int) := by
  have e : (y : Int) * 256 = ((y * 256 : Nat) : Int) := by omega
  have t : ∀ n : Nat, n < 2 ^ 64 → (BitVec.ofInt 64 (n : Int)).toNat = n := by
    intro n hn
    rw [BitVec.toNat_ofInt]
    omega
  rw [e]
  simp only [bits]
  show IntKind.i64.wrap (((BitVec.ofInt 64 (x : Int) ||| BitVec.ofInt 64 ((y * 256 : Nat) : Int)).toNat : Nat) : Int) = _
  rw [BitVec.toNat_or, t _ (by omega), t _ (by omega), Nat.or_comm, nat_join 8 (y * 256) x (by omega) (by omega), IntWalk.i64_in _ (by omega)]
  omega

/-- what stands from i to j -/
def IsCut (l : List UInt8) (i j : Nat) (v : Value) (w : World) : Prop := ∃ a' c', v = .slice a' ((l.drop i).take (j - i)).length c' ∧ BS w a' c' ((l.drop i).take (j - i))

theorem opOk_cut {P : Program} {o : Oper} {ρ : Operand → Value} {w : World} {K : Value → World → Prop} (x : Operand) (lo hi' : Option Operand) (t : TypeId) (ho : o.op = Op.slice t x lo hi' none)
    (ht : P.underlying t = some (.slice 5)) (hinf : (P.info? 5).map (fun i => (i.zero, i.size, i.bytes)) = some (some (.int .u8 0), 1, 1))
    {a : Option Addr} {n cap : Nat} {l : List UInt8} (hx : ρ x = .slice a n cap) (h : BS w a cap l) (i j : Nat)
    (hlo : lo.map ρ = some (.int .i64 (i : Int)) ∨ (lo = none ∧ i = 0)) (hhi : hi'.map ρ = some (.int .i64 (j : Int)) ∨ (hi' = none ∧ j = n)) (hij : i ≤ j) (hj : j ≤ l.length)
    (hK : ∀ v, IsCut l i j v w → K v w) : OpOk P o ρ w K := by
  obtain ⟨info, h1, _, h3, _⟩ := info_parts hinf
  refine opOk_slice t x lo hi' ho 5 info 1 ht h1 h3 (by decide) hx h i j hlo hhi hij (by have := h.fit'; omega) fun a' hc => hK _ ⟨a', cap - i, ?_, BS.cut j hc⟩
  rw [List.length_take, List.length_drop, Nat.min_eq_left (by omega)]

set_option maxRecDepth 100000 in
set_option maxHeartbeats 1000000 in
theorem next_calls (a : Option Addr) (cap : Nat) (l : List UInt8) (w : World) (h : BS w a cap l) (hq : Laid w) (hn : l.length ≤ 140737488355328) :
    Calls Tryd.prog 91 #[.slice a l.length cap] w (RetBBE w.heap.size w (nextL l)) := by
  by_cases h2 : l.length < 2
  · have e : nextL l = ([], [], 2) := by unfold nextL; rw [if_pos h2]
    rw [e]
    go_enter Tryd.func91, Tryd.ntmps91
    go_wp2_with fail
    go_ret3
    exact retNil w 2 (n := 0)
  · obtain ⟨b, off, rfl, hh⟩ := h.get (by omega)
    obtain ⟨x, hx, b0, c0⟩ := hh 0 (by omega)
    obtain ⟨y, hy, b1, c1⟩ := hh 1 (by omega)
    have i0 : 0 < l.length := by omega
    rw [Nat.add_zero] at c0
    have i1 : (1 : Int) < (l.length : Int) := by omega
    obtain ⟨n, hn0⟩ : ∃ n, lenL l = n := ⟨_, rfl⟩
    have hor : bits .or .i64 (x : Int) ((y : Int) * 256) = (n : Int) := by
      rw [or_len x y b0 b1, ← hn0, ← hx, ← hy]; rfl
    have hnb : (n : Int) ≤ 65535 := by rw [← hn0]; unfold lenL; rw [hx, hy]; omega
    have hm : (l.length : Int) ≤ 140737488355328 := by omega
    clear hh hx hy hn
    by_cases h3 : 2048 < n
    · have e : nextL l = ([], [], 3) := by unfold nextL; rw [if_neg h2, hn0, if_pos h3]
      rw [e]
      have h3' : (2048 : Int) < (n : Int) := by omega
      clear e hn0 h h3
      go_enter Tryd.func91, Tryd.ntmps91
      go_wp2_with fail
      go_quiet (fail)
      go_wp2_with fail
      go_ret3
      exact retNil w 3
    have h3' : (n : Int) ≤ 2048 := by omega
    by_cases h4 : l.length < n + 6
    · have e : nextL l = ([], [], 2) := by unfold nextL; rw [if_neg h2, hn0, if_neg h3, if_pos h4]
      rw [e]
      have h4' : (l.length : Int) < 2 + n + 4 := by omega
      clear e hn0 h h4
      go_enter Tryd.func91, Tryd.ntmps91
      go_wp2_with fail
      go_quiet (fail)
      go_wp2_with fail
      go_ret3
      exact retNil w 2
    have h4' : (2 : Int) + n + 4 ≤ (l.length : Int) := by omega
    have Hn0 := hid hn0
    have Hh := hid h
    have Hq := hid hq
    clear hn0 h hq h4
    go_enter Tryd.func91, Tryd.ntmps91
    go_wp2_with fail
    go_quiet (fail)
    go_wp2_with fail
    clear c0 c1 hor
    refine wp_region_below (fun i v w' => match i with
      | 0 => v = .slice (some ⟨b, off, none⟩) l.length cap
      | 1 => v = .int .i64 (2 + n)
      | 2 => v = .int .i64 (2 + n)
      | 3 => v = .int .i64 (2 + n + 4)
      | 4 => IsCut l (n + 2) (n + 6) v w'
      | 5 => v = .slice (some ⟨b, off, none⟩) l.length cap
      | 6 => v = .int .i64 (2 + n)
      | 7 => IsCut l 0 (n + 2) v w'
      | 8 => v = .int .u32 ((crc (l.take (n + 2))).toNat : Int)
      | 9 => ∃ a c, v = .slice a (tailL (crc (l.take (n + 2)))).length c ∧ BS w' a c (tailL (crc (l.take (n + 2))))
      | 10 => v = .bool ((l.drop (n + 2)).take 4 == tailL (crc (l.take (n + 2))))
      | 11 => v = .bool (!((l.drop (n + 2)).take 4 == tailL (crc (l.take (n + 2)))))
      | _ => v = .bool (!((l.drop (n + 2)).take 4 == tailL (crc (l.take (n + 2)))))) (by kernel_rfl) (by kernel_rfl) ?_ ?_ ?_
    · intro j v w1 w2 hR hb
      match j, hR with
      | 0, hR | 1, hR | 2, hR | 3, hR | 5, hR | 6, hR | 8, hR | 10, hR | 11, hR | _ + 12, hR => exact hR
      | 4, ⟨a', c', e, hs⟩ | 7, ⟨a', c', e, hs⟩ | 9, ⟨a', c', e, hs⟩ => exact ⟨a', c', e, hs.below hb⟩
    · refine ⟨?_, ?_, ?_, ?_, ?_, ?_, ?_, ?_, ?_, ?_, ?_, ?_, ?_, trivial⟩
      all_goals intro ρ w1 hE hc hg hf
      · intro h0; exact opOk_move _ rfl ⟨Below.refl _ _, h0⟩
      · intro h0; exact opOk_move _ rfl ⟨Below.refl _ _, h0⟩
      · intro h0; exact opOk_move _ rfl ⟨Below.refl _ _, h0⟩
      · intro (h0 : ρ (.tmp 34) = .int .i64 (2 + n))
        refine opOk_run (v := .int .i64 (2 + n + 4)) (w' := w1) ?_ ⟨Below.refl _ _, rfl⟩
        go_simp
        go_bits
        all_goals trivial
      · intro h0 h1 h2
        refine opOk_cut _ _ _ _ rfl under_bytes info_u8 h0 (Hh.out.below ((below_drewN (Below.refl _ _) nq).trans hE)) (n + 2) (n + 6) ?_ ?_ (by omega) (by omega) fun v hv => ⟨Below.refl _ _, hv⟩
        · left; rw [Option.map_some, h1]; congr 2; omega
        · left; rw [Option.map_some, h2]; congr 2; omega
      · intro h0; exact opOk_move _ rfl ⟨Below.refl _ _, h0⟩
      · intro h0; exact opOk_move _ rfl ⟨Below.refl _ _, h0⟩
      · intro h0 h1
        refine opOk_cut _ _ _ _ rfl under_bytes info_u8 h0 (Hh.out.below ((below_drewN (Below.refl _ _) nq).trans hE)) 0 (n + 2) ?_ ?_ (by omega) (by omega) fun v hv => ⟨Below.refl _ _, hv⟩
        · right; exact ⟨rfl, rfl⟩
        · left; rw [Option.map_some, h1]; congr 2; omega
      · intro ⟨a', c', e', hs⟩
        refine opOk_call (f := 90) (args := #[.slice a' ((l.drop 0).take (n + 2 - 0)).length c']) ?_ ?_
        · go_simp
        · refine (sum_calls _ _ _ _ hs (Hq.out.below ((below_drewN (Below.refl _ _) nq).trans hE) Hq.out.1)).mono ?_
          rintro e w2 ⟨rfl, rfl⟩
          exact ⟨_, rfl, Below.refl _ _, rfl⟩
      · intro (h0 : ρ (.tmp 40) = .int .u32 ((crc (l.take (n + 2))).toNat : Int))
        refine opOk_call (f := 89) (args := #[.int .u32 ((crc (l.take (n + 2))).toNat : Int)]) ?_ ?_
        · go_simp
        · refine (tail_calls _ _).mono ?_
          rintro e w2 ⟨v, rfl, hv, hb⟩
          obtain ⟨a', c', rfl, hs, _⟩ := OB.bs hv
          exact ⟨_, rfl, hb, _, _, rfl, hs⟩
      · intro ⟨a1, c1, e1, hs1⟩ ⟨a2, c2, e2, hs2⟩
        refine opOk_call (f := 93) (args := #[.slice a1 ((l.drop (n + 2)).take (n + 6 - (n + 2))).length c1, .slice a2 (tailL (crc (l.take (n + 2)))).length c2]) ?_ ?_
        · go_simp
        · refine (equal_calls _ _ _ _ _ _ _ hs1 hs2).mono ?_
          rintro e w2 ⟨rfl, rfl⟩
          refine ⟨_, rfl, Below.refl _ _, ?_⟩
          show Value.bool ((l.drop (n + 2)).take (n + 6 - (n + 2)) == tailL (crc (l.take (n + 2)))) = _
          rw [show n + 6 - (n + 2) = 4 from by omega]
      · intro (h0 : ρ (.tmp 42) = .bool ((l.drop (n + 2)).take 4 == tailL (crc (l.take (n + 2)))))
        refine opOk_run (v := .bool (!((l.drop (n + 2)).take 4 == tailL (crc (l.take (n + 2)))))) (w' := w1) ?_ ⟨Below.refl _ _, rfl⟩
        go_simp
      · intro h0; exact opOk_assign _ rfl ⟨Below.refl _ _, h0⟩
    · intro w1 hb1
      rintro _ rfl _ rfl _ rfl _ rfl v36 h36 _ rfl _ rfl v39 h39 _ rfl v41 h41 _ rfl _ rfl _ rfl
      clear h36 h39 h41
      simp only [PutAll, Act.put, List.setIfInBounds_toArray, List.set_cons_succ, List.set_cons_zero]
      by_cases h5 : ((l.drop (n + 2)).take 4 == tailL (crc (l.take (n + 2)))) = true
      · have e : nextL l = ((l.drop 2).take n, l.drop (n + 6), 0) := by unfold nextL; rw [if_neg h2, Hn0.out, if_neg h3, if_neg (by omega), if_pos h5]
        have He := hid e
        rw [h5, Bool.not_true]
        clear e h5
        go_wp2_with fail
        refine wp_region_below (fun i v w' => match i with
          | 0 => v = .slice (some ⟨b, off, none⟩) l.length cap
          | 1 => v = .int .i64 (2 + n)
          | 2 => IsCut l 2 (n + 2) v w'
          | 3 => OB w' w.heap.size 5 v ((l.drop 2).take n)
          | 4 => v = .slice (some ⟨b, off, none⟩) l.length cap
          | 5 => v = .int .i64 (2 + n)
          | 6 => v = .int .i64 (2 + n + 4)
          | 7 => IsCut l (n + 6) l.length v w'
          | 8 => OB w' w.heap.size 5 v (l.drop (n + 6))
          | 9 => OB w' w.heap.size 5 v ((l.drop 2).take n)
          | 10 => OB w' w.heap.size 5 v (l.drop (n + 6))
          | _ => v = .int .i64 0) (by kernel_rfl) (by kernel_rfl) ?_ ?_ ?_
        · intro j v w1 w2 hR hb
          match j, hR with
          | 0, hR | 1, hR | 4, hR | 5, hR | 6, hR | _ + 11, hR => exact hR
          | 3, hR | 8, hR | 9, hR | 10, hR => exact OB.below hR hb
          | 2, ⟨a', c', e, hs⟩ | 7, ⟨a', c', e, hs⟩ => exact ⟨a', c', e, hs.below hb⟩
        · have Hw1 := (below_drewN (Below.refl w.heap.size w) nq).trans hb1
          refine ⟨?_, ?_, ?_, ?_, ?_, ?_, ?_, ?_, ?_, ?_, ?_, ?_, trivial⟩
          all_goals intro ρ w2 hE hc hg hf
          all_goals have hE' := Hw1.trans (hE.mono Hw1.size)
          · intro h0; exact opOk_move _ rfl ⟨Below.refl _ _, h0⟩
          · intro h0; exact opOk_move _ rfl ⟨Below.refl _ _, h0⟩
          · intro h0 h1
            refine opOk_cut _ _ _ _ rfl under_bytes info_u8 h0 (Hh.out.below hE') 2 (n + 2) ?_ ?_ (by omega) (by omega) fun v hv => ⟨Below.refl _ _, hv⟩
            · left; rw [Option.map_some, hc]; rfl
            · left; rw [Option.map_some, h1]; congr 2; omega
          · intro ⟨a', c', e', hs⟩
            refine opOk_call (f := 83) (args := #[.slice a' ((l.drop 2).take (n + 2 - 2)).length c']) ?_ ?_
            · go_simp
            · refine (clone_calls _ _ _ _ hs (by rw [List.length_take, List.length_drop]; omega)).mono ?_
              rintro e w3 ⟨v, rfl, hv, hb⟩
              refine ⟨_, rfl, hb, ?_⟩
              rw [Nat.add_sub_cancel] at hv
              exact OB.base hv hE'.size
          · intro h0; exact opOk_move _ rfl ⟨Below.refl _ _, h0⟩
          · intro h0; exact opOk_move _ rfl ⟨Below.refl _ _, h0⟩
          · intro (h0 : ρ (.tmp 49) = .int .i64 (2 + n))
            refine opOk_run (v := .int .i64 (2 + n + 4)) (w' := w2) ?_ ⟨Below.refl _ _, rfl⟩
            go_simp
            go_bits
            all_goals trivial
          · intro h0 h1
            refine opOk_cut _ _ _ _ rfl under_bytes info_u8 h0 (Hh.out.below hE') (n + 6) l.length ?_ ?_ (by omega) (by omega) fun v hv => ⟨Below.refl _ _, hv⟩
            · left; rw [Option.map_some, h1]; congr 2; omega
            · right; exact ⟨rfl, rfl⟩
          · intro ⟨a', c', e', hs⟩
            refine opOk_call (f := 83) (args := #[.slice a' ((l.drop (n + 6)).take (l.length - (n + 6))).length c']) ?_ ?_
            · go_simp
            · refine (clone_calls _ _ _ _ hs (by rw [List.length_take, List.length_drop]; omega)).mono ?_
              rintro e w3 ⟨v, rfl, hv, hb⟩
              refine ⟨_, rfl, hb, ?_⟩
              rw [List.take_of_length_le (by rw [List.length_drop]; omega)] at hv
              exact OB.base hv hE'.size
          · intro h0; exact opOk_assign _ rfl ⟨Below.refl _ _, h0⟩
          · intro h0; exact opOk_assign _ rfl ⟨Below.refl _ _, h0⟩
          · dsimp only [GuF, InF, Op.operands]
            refine opOk_assign (.const (.int .i64 0)) rfl ?_
            exact ⟨Below.refl _ _, hc _⟩
        · intro w2 hb2
          rintro _ rfl _ rfl v2 h2 v3 h3 _ rfl _ rfl _ rfl v7 h7 v8 h8 v9 h9 v10 h10 _ rfl
          clear h2 h3 h7 h8
          simp only [PutAll, Act.put, List.setIfInBounds_toArray, List.set_cons_succ, List.set_cons_zero]
          go_wp2_with fail
          go_ret3
          rw [He.out]
          exact ⟨_, _, rfl, h9, h10, ((below_drewN (Below.refl _ _) nq).trans hb1).trans (hb2.mono hb1.size)⟩
      · have e : nextL l = ([], [], 5) := by unfold nextL; rw [if_neg h2, Hn0.out, if_neg h3, if_neg (by omega), if_neg h5]
        have He := hid e
        rw [Bool.eq_false_iff.2 h5, Bool.not_false]
        clear e h5
        go_wp2_with fail
        go_ret3
        rw [He.out]
        exact ⟨_, _, rfl, World.ownsRow_nil _ _ _ _, World.ownsRow_nil _ _ _ _, (below_drewN (Below.refl _ _) nq).trans hb1⟩
end Go.Proofs.YtmmcmldcbdaooaaDoor
